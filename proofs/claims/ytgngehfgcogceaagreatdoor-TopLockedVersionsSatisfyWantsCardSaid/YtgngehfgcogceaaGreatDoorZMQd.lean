/- Texts joined: Pr Ps Qc Qd. -/
import Derived.Test.YtgngehfgcogceaaGreatDoorZMSc
import Derived.Lib.Split
import Derived.Lib.Join
import Derived.Lib.AtoiAll
import Derived.Test.YtgngehfgcogceaaGreatDoorZMQb
section
/- Texts of versions, in plain words: writing, reading by the reference, reading by the program. No program in sight. -/
namespace Go.Proofs.YtgngehfgcogceaaGreatDoor
namespace Pl

/-! Digits of a number -/
theorem dS_small {n : Nat} (h : n < 10) : Lib.decDigits n = [UInt8.ofNat (48 + n)] := by rw [Lib.decDigits, dif_pos h]
theorem dS_big {n : Nat} (h : ¬ n < 10) : Lib.decDigits n = Lib.decDigits (n / 10) ++ [UInt8.ofNat (48 + n % 10)] := by rw [Lib.decDigits, dif_neg h]
theorem dg_nat {d : Nat} (h : d < 10) : (UInt8.ofNat (48 + d)).toNat = 48 + d := by
  rw [UInt8.toNat_ofNat']; omega
theorem dS_digs (n : Nat) : digsB (Lib.decDigits n) = true := by
  induction n using Nat.strongRecOn with
  | _ n ih =>
    by_cases h : n < 10
    · rw [dS_small h]
      simp only [digsB, List.all_cons, List.all_nil, Bool.and_true]
      exact digB_iff.2 (by rw [dg_nat h]; omega)
    · rw [dS_big h]
      have := ih (n / 10) (by omega)
      unfold digsB at this ⊢
      rw [List.all_append, this]
      simp only [List.all_cons, List.all_nil, Bool.and_true, Bool.true_and]
      exact digB_iff.2 (by rw [dg_nat (Nat.mod_lt _ (by omega))]; omega)
theorem valL_app1 (l : List UInt8) (c : UInt8) : valL (l ++ [c]) = 10 * valL l + ((c.toNat : Int) - 48) := by
  unfold valL; rw [List.foldl_append]; rfl
theorem dS_val (n : Nat) : valL (Lib.decDigits n) = n := by
  induction n using Nat.strongRecOn with
  | _ n ih =>
    by_cases h : n < 10
    · rw [dS_small h]
      show (10 * 0 + (((UInt8.ofNat (48 + n)).toNat : Int) - 48)) = n
      rw [dg_nat h]; omega
    · rw [dS_big h, valL_app1, ih (n / 10) (by omega), dg_nat (Nat.mod_lt _ (by omega))]
      omega
theorem dS_ne (n : Nat) : Lib.decDigits n ≠ [] := by
  by_cases h : n < 10
  · rw [dS_small h]; simp
  · rw [dS_big h]; simp
theorem dS_pos {n : Nat} : 0 < (Lib.decDigits n).length := List.length_pos_iff.2 (dS_ne n)
theorem dS_head (n : Nat) : 0 < n → (Lib.decDigits n).head? ≠ some 48 := by
  induction n using Nat.strongRecOn with
  | _ n ih =>
    intro h0
    by_cases h : n < 10
    · rw [dS_small h]
      simp only [List.head?_cons, ne_eq, Option.some.injEq]
      intro e
      have := congrArg UInt8.toNat e
      rw [dg_nat h] at this
      have e8 : (48 : UInt8).toNat = 48 := rfl
      omega
    · rw [dS_big h]
      have := ih (n / 10) (by omega) (by omega)
      rw [List.head?_append]
      cases hh : (Lib.decDigits (n / 10)).head? with
      | none => exact absurd (List.head?_eq_none_iff.1 hh) (dS_ne _)
      | some c => rw [hh] at this; exact this
theorem dS_len : ∀ (k n : Nat), n < 10 ^ (k + 1) → (Lib.decDigits n).length ≤ k + 1
  | 0, n, h => by rw [dS_small (by simpa using h)]; simp
  | k + 1, n, h => by
    by_cases h10 : n < 10
    · rw [dS_small h10]; simp
    · rw [dS_big h10, List.length_append]
      have := dS_len k (n / 10) (by rw [Nat.pow_succ] at h; omega)
      simp; omega
theorem dS_len10 {n : Nat} (h : n ≤ 1000000000) : (Lib.decDigits n).length ≤ 10 := dS_len 9 n (by omega)
/-- No zero ahead of other digits. -/
def canonB (l : List UInt8) : Bool := digsB l && decide (0 < l.length) && (decide (l.length ≤ 1) || !(l.head? == some 48))
theorem dS_canon (n : Nat) : canonB (Lib.decDigits n) = true := by
  unfold canonB
  rw [dS_digs, decide_eq_true dS_pos]
  by_cases h : n < 10
  · rw [dS_small h]; rfl
  · have := dS_head n (by omega)
    simp [this]
/-- Canonical digits are the digits of their value. -/
theorem canon_dS : ∀ (k : Nat) (l : List UInt8), l.length = k + 1 → canonB l = true → Lib.decDigits (valL l).toNat = l
  | 0, l, hl, hc => by
    obtain ⟨c, rfl⟩ := List.length_eq_one_iff.1 hl
    simp only [canonB, digsB, List.all_cons, List.all_nil, Bool.and_true, Bool.and_eq_true] at hc
    have hd := digB_iff.1 hc.1.1
    have e : valL [c] = (c.toNat : Int) - 48 := by show 10 * 0 + ((c.toNat : Int) - 48) = _; omega
    rw [e, dS_small (by omega)]
    congr 1
    rw [← UInt8.toNat_inj, dg_nat (by omega)]
    omega
  | k + 1, l, hl, hc => by
    obtain ⟨m, c, rfl⟩ : ∃ m c, l = m ++ [c] := ⟨l.dropLast, l.getLast (by intro h; rw [h] at hl; simp at hl), (List.dropLast_concat_getLast _).symm⟩
    have hm : m.length = k + 1 := by simpa using hl
    simp only [canonB, Bool.and_eq_true, Bool.or_eq_true, decide_eq_true_eq, Bool.not_eq_true', beq_eq_false_iff_ne] at hc
    obtain ⟨⟨h1, h2⟩, h3⟩ := hc
    have hdm : digsB m = true ∧ digB c = true := by
      unfold digsB at h1 ⊢
      rw [List.all_append] at h1
      simpa using h1
    have hhead : m.head? ≠ some 48 := by
      rcases h3 with h3 | h3
      · rw [hl] at h3; omega
      · rw [List.head?_append] at h3
        cases hh : m.head? with
        | none => simp
        | some d => rw [hh] at h3; exact h3
    have hcm : canonB m = true := by
      simp only [canonB, Bool.and_eq_true, Bool.or_eq_true, decide_eq_true_eq, Bool.not_eq_true', beq_eq_false_iff_ne]
      exact ⟨⟨hdm.1, by omega⟩, .inr hhead⟩
    have ih := canon_dS k m hm hcm
    have hv := valL_bounds hdm.1
    have hd := digB_iff.1 hdm.2
    have hpos : 0 < valL m := by
      cases m with
      | nil => simp at hm
      | cons d m =>
        simp only [digsB, List.all_cons, Bool.and_eq_true] at hdm
        have hd2 := digB_iff.1 hdm.1.1
        have hd3 : d.toNat ≠ 48 := fun e => hhead (by simp [← UInt8.toNat_inj, e])
        have hv2 := valL_bounds (s := m) hdm.1.2
        rw [valL_cons]
        have hp : (0 : Int) < 10 ^ m.length := Int.pow_pos (by omega)
        have := Int.mul_pos (show 0 < (d.toNat : Int) - 48 by omega) hp
        omega
    rw [valL_app1]
    have e1 : (10 * valL m + ((c.toNat : Int) - 48)).toNat / 10 = (valL m).toNat := by omega
    have e2 : (10 * valL m + ((c.toNat : Int) - 48)).toNat % 10 = c.toNat - 48 := by omega
    rw [dS_big (by omega), e1, e2, ih]
    congr 2
    rw [← UInt8.toNat_inj, dg_nat (by omega)]
    omega

/-! Writing -/
/-- The identifiers behind the first one. -/
def restT (l : List (List UInt8)) : List UInt8 := l.flatMap (46 :: ·)
def preT : List (List UInt8) → List UInt8
  | [] => []
  | x :: l => 45 :: x ++ restT l
def numT (v : Ver) : List UInt8 := digS v.maj ++ 46 :: digS v.min ++ 46 :: digS v.pat
def verT (v : Ver) : List UInt8 := numT v ++ preT (v.pre.map bsl)
theorem idc_dot {l : List UInt8} (h : identB l = true) : (46 : UInt8) ∉ l := fun hm => by
  have := List.all_eq_true.1 (identB_iff.1 h).2.2.1 46 hm
  revert this; decide
theorem digs_no {l : List UInt8} (h : digsB l = true) {c : UInt8} (hc : digB c = false) : c ∉ l := fun hm => by
  have := List.all_eq_true.1 h c hm
  rw [hc] at this; cases this
theorem digS_digs (n : Int) : digsB (digS n) = true := dS_digs _
theorem digS_no46 (n : Int) : (46 : UInt8) ∉ digS n := digs_no (digS_digs n) (by decide)
theorem digS_no45 (n : Int) : (45 : UInt8) ∉ digS n := digs_no (digS_digs n) (by decide)
theorem numT_no45 (v : Ver) : (45 : UInt8) ∉ numT v := by
  unfold numT
  simp [digS_no45]
theorem restT_len (l : List (List UInt8)) (h : ∀ x ∈ l, x.length ≤ 8) : (restT l).length ≤ 9 * l.length := by
  induction l with
  | nil => simp [restT]
  | cons x l ih =>
    have h1 := h x (by simp)
    have h2 := ih (fun y hy => h y (by simp [hy]))
    unfold restT at h2 ⊢
    simp only [List.flatMap_cons, List.length_append, List.length_cons]
    omega
theorem preT_len (l : List (List UInt8)) (h : ∀ x ∈ l, x.length ≤ 8) : (preT l).length ≤ 9 * l.length := by
  cases l with
  | nil => simp [preT]
  | cons x l =>
    have h1 := h x (by simp)
    have h2 := restT_len l (fun y hy => h y (by simp [hy]))
    simp only [preT, List.length_append, List.length_cons]
    omega
theorem verT_len {v : Ver} (h : v.Ok) : (verT v).length ≤ 80 := by
  have h1 := inB_true.1 h.m1
  have h2 := inB_true.1 h.m2
  have h3 := inB_true.1 h.m3
  have l1 := dS_len10 (n := v.maj.toNat) (by omega)
  have l2 := dS_len10 (n := v.min.toNat) (by omega)
  have l3 := dS_len10 (n := v.pat.toNat) (by omega)
  have l4 := preT_len (v.pre.map bsl) (fun x hx => by
    obtain ⟨s, hs, rfl⟩ := List.mem_map.1 hx
    exact (identB_iff.1 (h.i s hs)).2.1)
  have := h.n
  unfold verT numT digS
  simp only [List.length_append, List.length_cons, List.length_map] at l4 ⊢
  omega

/-! Reading, by the reference -/
def notE (x y : Int) (c : UInt8) : Bool := !((c.toNat : Int) == x) && !((c.toNat : Int) == y)
def untilA (x y : Int) (l : List UInt8) : List UInt8 := l.takeWhile (notE x y)
def untilZ (x y : Int) (l : List UInt8) : List UInt8 := l.dropWhile (notE x y)
def numOf (l : List UInt8) : Int := if canonB l = true ∧ l.length ≤ 19 ∧ valL l ≤ 1000000000 then valL l else -1
/-- The identifiers, each behind its separator. -/
def preL : Nat → List UInt8 → List (List UInt8)
  | 0, _ => []
  | _ + 1, [] => []
  | f + 1, _ :: r => untilA 46 46 r :: preL f (untilZ 46 46 r)
def mkS (l : List UInt8) : ByteArray := ⟨l.toArray⟩
theorem bsl_mkS (l : List UInt8) : bsl (mkS l) = l := by simp [bsl, mkS]
/-- What the reference reads, before it is checked; none: there is no such text. -/
def refTry (s : List UInt8) : Option Ver :=
  if untilZ 46 46 s = [] then none
  else if untilZ 46 46 ((untilZ 46 46 s).drop 1) = [] then none
  else
    let s2 := (untilZ 46 46 ((untilZ 46 46 s).drop 1)).drop 1
    if (untilZ 45 46 s2).head? = some 46 then none
    else some ⟨numOf (untilA 46 46 s), numOf (untilA 46 46 ((untilZ 46 46 s).drop 1)), numOf (untilA 45 46 s2), (preL (untilZ 45 46 s2).length (untilZ 45 46 s2)).map mkS⟩
def refParse (s : List UInt8) : Option Ver := match refTry s with
  | none => none
  | some v => if (vrF v).1 = 0 then some v else none
theorem until_at {x y : Int} {a b : List UInt8} {c : UInt8} (ha : ∀ d ∈ a, notE x y d = true) (hc : notE x y c = false) : untilA x y (a ++ c :: b) = a ∧ untilZ x y (a ++ c :: b) = c :: b := by
  unfold untilA untilZ
  constructor
  · rw [List.takeWhile_append_of_pos ha, List.takeWhile_cons_of_neg (by simp [hc]), List.append_nil]
  · rw [List.dropWhile_append_of_pos ha, List.dropWhile_cons_of_neg (by simp [hc])]
theorem until_no {x y : Int} {a : List UInt8} (ha : ∀ d ∈ a, notE x y d = true) : untilA x y a = a ∧ untilZ x y a = [] := by
  unfold untilA untilZ
  have h1 := List.takeWhile_append_of_pos (l₂ := []) ha
  have h2 := List.dropWhile_append_of_pos (l₂ := []) ha
  simp only [List.append_nil, List.takeWhile_nil, List.dropWhile_nil] at h1 h2
  exact ⟨h1, h2⟩
theorem notE_46 {d : UInt8} (h : d ≠ 46) : notE 46 46 d = true := by
  have : (d.toNat : Int) ≠ 46 := fun e => h (by rw [← UInt8.toNat_inj]; show _ = 46; omega)
  simp [notE, this]
theorem notE_4546 {d : UInt8} (h : d ≠ 46) (h2 : d ≠ 45) : notE 45 46 d = true := by
  have e1 : (d.toNat : Int) ≠ 46 := fun e => h (by rw [← UInt8.toNat_inj]; show _ = 46; omega)
  have e2 : (d.toNat : Int) ≠ 45 := fun e => h2 (by rw [← UInt8.toNat_inj]; show _ = 45; omega)
  simp [notE, e1, e2]
theorem numOf_digS {n : Int} (h : inB n 0 1000000000 = true) : numOf (digS n) = n := by
  have h1 := inB_true.1 h
  have hl := dS_len10 (n := n.toNat) (by omega)
  have hv : valL (digS n) = n := by unfold digS; rw [dS_val]; omega
  unfold numOf
  rw [hv, if_pos ⟨dS_canon _, by unfold digS; omega, h1.2⟩]
theorem numOf_ok {l : List UInt8} (h : inB (numOf l) 0 1000000000 = true) : digS (numOf l) = l := by
  unfold numOf at h ⊢
  split at h
  · rename_i hc
    rw [if_pos hc]
    have hl : 0 < l.length := by
      have := hc.1
      simp only [canonB, Bool.and_eq_true, decide_eq_true_eq] at this
      exact this.1.2
    exact canon_dS (l.length - 1) l (by omega) hc.1
  · exact absurd h (by decide)
theorem preL_rest : ∀ (l : List (List UInt8)) (f : Nat), (∀ x ∈ l, (46 : UInt8) ∉ x) → (restT l).length ≤ f → preL f (restT l) = l
  | [], f, _, _ => by cases f <;> rfl
  | x :: l, 0, _, hf => by simp [restT] at hf
  | x :: l, f + 1, h, hf => by
    have e : restT (x :: l) = 46 :: (x ++ restT l) := rfl
    have hx : ∀ d ∈ x, notE 46 46 d = true := fun d hd => notE_46 (fun e => h x (by simp) (e ▸ hd))
    rw [e] at hf ⊢
    rw [preL]
    cases l with
    | nil =>
      have e2 : restT ([] : List (List UInt8)) = [] := rfl
      rw [e2, List.append_nil, (until_no hx).1, (until_no hx).2]
      cases f <;> rfl
    | cons y l =>
      have e2 : restT (y :: l) = 46 :: (y ++ restT l) := rfl
      rw [e2, (until_at hx (by decide)).1, (until_at hx (by decide)).2, ← e2, preL_rest (y :: l) f (fun z hz => h z (by simp [hz])) (by simp at hf; omega)]
theorem preL_pre (l : List (List UInt8)) (f : Nat) (h : ∀ x ∈ l, (46 : UInt8) ∉ x) (hf : (preT l).length ≤ f) : preL f (preT l) = l := by
  cases l with
  | nil => cases f <;> rfl
  | cons x l =>
    have e := preL_rest (x :: l) f h (by simpa [preT, restT] using hf)
    have e2 : restT (x :: l) = 46 :: (x ++ restT l) := rfl
    rw [e2] at e
    cases f with
    | zero => simp [preT] at hf
    | succ f => rw [preL] at e; rw [preT, List.cons_append, preL]; exact e
theorem map_mkS (l : List ByteArray) : (l.map bsl).map mkS = l := by
  rw [List.map_map]
  conv => rhs; rw [← List.map_id l]
  exact List.map_congr_left fun s _ => by show mkS (bsl s) = s; simp [mkS, bsl]
/-- The reference reads what is written. -/
theorem ref_verT {v : Ver} (h : v.Ok) : refParse (verT v) = some v := by
  have d1 : ∀ d ∈ digS v.maj, notE 46 46 d = true := fun d hd => notE_46 (fun e => digS_no46 _ (e ▸ hd))
  have d2 : ∀ d ∈ digS v.min, notE 46 46 d = true := fun d hd => notE_46 (fun e => digS_no46 _ (e ▸ hd))
  have d3 : ∀ d ∈ digS v.pat, notE 45 46 d = true := fun d hd => notE_4546 (fun e => digS_no46 _ (e ▸ hd)) (fun e => digS_no45 _ (e ▸ hd))
  have e : verT v = digS v.maj ++ 46 :: (digS v.min ++ 46 :: (digS v.pat ++ preT (v.pre.map bsl))) := by simp [verT, numT]
  have u1 := until_at (b := digS v.min ++ 46 :: (digS v.pat ++ preT (v.pre.map bsl))) d1 (c := 46) (by decide)
  have u2 := until_at (b := digS v.pat ++ preT (v.pre.map bsl)) d2 (c := 46) (by decide)
  have u3 : untilA 45 46 (digS v.pat ++ preT (v.pre.map bsl)) = digS v.pat ∧ untilZ 45 46 (digS v.pat ++ preT (v.pre.map bsl)) = preT (v.pre.map bsl) := by
    cases hp : v.pre.map bsl with
    | nil => rw [preT, List.append_nil]; exact until_no d3
    | cons x l => rw [preT, List.cons_append]; exact until_at d3 (by decide)
  have hh : (preT (v.pre.map bsl)).head? ≠ some 46 := by
    cases hp : v.pre.map bsl with
    | nil => rw [preT]; decide
    | cons x l => rw [preT]; simp
  have hr : refTry (verT v) = some v := by
    unfold refTry
    rw [e, u1.1, u1.2]
    simp only [List.drop_succ_cons, List.drop_zero]
    rw [u2.1, u2.2]
    simp only [List.drop_succ_cons, List.drop_zero]
    rw [u3.1, u3.2, if_neg (by simp), if_neg (by simp), if_neg hh, numOf_digS h.m1, numOf_digS h.m2, numOf_digS h.m3, preL_pre _ _ (fun x hx => by
      obtain ⟨s, hs, rfl⟩ := List.mem_map.1 hx
      exact idc_dot (h.i s hs)) (Nat.le_refl _), map_mkS]
  unfold refParse
  rw [hr]
  show (if (vrF v).1 = 0 then some v else none) = _
  rw [vrF_ok h]
  rfl
theorem untilZ_head {x y : Int} {l : List UInt8} (h : untilZ x y l ≠ []) : ∃ c r, untilZ x y l = c :: r ∧ notE x y c = false := by
  unfold untilZ at *
  induction l with
  | nil => exact absurd rfl h
  | cons d l ih =>
    by_cases hd : notE x y d = true
    · rw [List.dropWhile_cons_of_pos hd] at h ⊢; exact ih h
    · rw [List.dropWhile_cons_of_neg hd]; exact ⟨d, l, rfl, by simpa using hd⟩
theorem until_app (x y : Int) (l : List UInt8) : untilA x y l ++ untilZ x y l = l := List.takeWhile_append_dropWhile
theorem notE_is46 {c : UInt8} (h : notE 46 46 c = false) : c = 46 := by
  simp only [notE, Bool.and_self, Bool.not_eq_false', beq_iff_eq] at h
  rw [← UInt8.toNat_inj]; show _ = 46; omega
theorem restT_preL : ∀ (f : Nat) (s : List UInt8), s.length ≤ f → (s = [] ∨ s.head? = some 46) → restT (preL f s) = s
  | 0, s, hf, _ => by rw [List.eq_nil_of_length_eq_zero (by omega : s.length = 0)]; rfl
  | f + 1, [], _, _ => rfl
  | f + 1, c :: r, hf, h => by
    obtain rfl : c = 46 := by simpa using h
    have hz : untilZ 46 46 r = [] ∨ (untilZ 46 46 r).head? = some 46 := by
      by_cases h0 : untilZ 46 46 r = []
      · exact .inl h0
      · obtain ⟨c, q, h1, h2⟩ := untilZ_head h0
        rw [h1, notE_is46 h2]; exact .inr rfl
    have hl : (untilZ 46 46 r).length ≤ f := by
      have := congrArg List.length (until_app 46 46 r)
      rw [List.length_append] at this
      simp at hf
      omega
    have ih := restT_preL f _ hl hz
    rw [preL]
    show 46 :: (untilA 46 46 r ++ restT (preL f (untilZ 46 46 r))) = _
    rw [ih, until_app]
theorem preT_preL (f : Nat) (s : List UInt8) (hf : s.length ≤ f) (h : s = [] ∨ s.head? = some 45) : preT (preL f s) = s := by
  cases s with
  | nil => cases f <;> rfl
  | cons c r =>
    obtain rfl : c = 45 := by simpa using h
    cases f with
    | zero => simp at hf
    | succ f =>
      have := restT_preL (f + 1) (46 :: r) hf (.inr rfl)
      rw [preL] at this ⊢
      have e : restT (untilA 46 46 r :: preL f (untilZ 46 46 r)) = 46 :: (untilA 46 46 r ++ restT (preL f (untilZ 46 46 r))) := rfl
      rw [e, List.cons_inj_right] at this
      rw [preT, List.cons_append, this]
/-- What the reference reads is written so. -/
theorem ref_sound {s : List UInt8} {v : Ver} (h : refParse s = some v) : v.Ok ∧ verT v = s := by
  unfold refParse at h
  split at h
  · cases h
  · rename_i v' hr
    split at h
    · rename_i hF
      cases h
      have ok : v.Ok := by
        rcases vrF_cases v with ⟨-, ok⟩ | h2
        · exact ok
        · exact absurd hF h2
      refine ⟨ok, ?_⟩
      unfold refTry at hr
      split at hr
      · cases hr
      rename_i n1
      split at hr
      · cases hr
      rename_i n2
      simp only at hr
      split at hr
      · cases hr
      rename_i n3
      injection hr with hr
      obtain ⟨c1, r1, z1, k1⟩ := untilZ_head n1
      obtain ⟨c2, r2, z2, k2⟩ := untilZ_head n2
      have a1 := until_app 46 46 s
      have a2 := until_app 46 46 ((untilZ 46 46 s).drop 1)
      rw [z1] at z2 hr n3 a1 a2
      simp only [List.drop_succ_cons, List.drop_zero] at z2 hr n3 a2
      rw [z2] at hr n3 a2
      simp only [List.drop_succ_cons, List.drop_zero] at hr n3
      have a3 := until_app 45 46 r2
      rw [notE_is46 k1] at a1
      rw [notE_is46 k2] at a2
      have m1 := numOf_ok (l := untilA 46 46 s) (by have := ok.m1; rw [← hr] at this; exact this)
      have m2 := numOf_ok (l := untilA 46 46 r1) (by have := ok.m2; rw [← hr] at this; exact this)
      have m3 := numOf_ok (l := untilA 45 46 r2) (by have := ok.m3; rw [← hr] at this; exact this)
      have hz : untilZ 45 46 r2 = [] ∨ (untilZ 45 46 r2).head? = some 45 := by
        by_cases h0 : untilZ 45 46 r2 = []
        · exact .inl h0
        · obtain ⟨c, q, h1, h2⟩ := untilZ_head h0
          rw [h1] at n3 ⊢
          simp only [notE, Bool.and_eq_false_iff, Bool.not_eq_false', beq_iff_eq] at h2
          rcases h2 with h2 | h2
          · right
            simp only [List.head?_cons, Option.some.injEq]
            rw [← UInt8.toNat_inj]; show _ = 45; omega
          · exfalso; apply n3
            simp only [List.head?_cons, Option.some.injEq]
            rw [← UInt8.toNat_inj]; show _ = 46; omega
      have p := preT_preL _ _ (Nat.le_refl _) hz
      rw [← hr]
      unfold verT numT
      simp only
      rw [m1, m2, m3, List.map_map]
      rw [show (preL (untilZ 45 46 r2).length (untilZ 45 46 r2)).map (bsl ∘ mkS) = preL (untilZ 45 46 r2).length (untilZ 45 46 r2) by
        conv => rhs; rw [← List.map_id (preL _ _)]
        exact List.map_congr_left fun l _ => bsl_mkS l, p]
      rw [List.append_assoc, List.cons_append, a3, List.append_assoc, List.cons_append, a2, a1]
    · cases h
theorem ref_iff {s : List UInt8} {v : Ver} : refParse s = some v ↔ v.Ok ∧ verT v = s :=
  ⟨ref_sound, fun ⟨h1, h2⟩ => h2 ▸ ref_verT h1⟩
end Pl
end Go.Proofs.YtgngehfgcogceaaGreatDoor

end
section
/- Texts of versions: what the program reads is what the reference reads. No program in sight. -/
namespace Go.Proofs.YtgngehfgcogceaaGreatDoor
namespace Pl

theorem index_no {c : UInt8} : ∀ {l : List UInt8}, c ∉ l → Lib.index l [c] = -1
  | [], _ => rfl
  | b :: l, h => by
    have h1 : c ≠ b := fun e => h (by simp [e])
    have h2 := index_no (c := c) (l := l) (fun e => h (by simp [e]))
    unfold Lib.index
    rw [if_neg (by simp [h1]), h2]; rfl
theorem index_at {c : UInt8} : ∀ {a b : List UInt8}, c ∉ a → Lib.index (a ++ c :: b) [c] = a.length
  | [], b, _ => by
    show Lib.index (c :: b) [c] = _
    unfold Lib.index
    rw [if_pos (by simp)]; rfl
  | d :: a, b, h => by
    have h1 : c ≠ d := fun e => h (by simp [e])
    have h2 := index_at (c := c) (a := a) (b := b) (fun e => h (by simp [e]))
    show Lib.index (d :: (a ++ c :: b)) [c] = _
    unfold Lib.index
    rw [if_neg (by simp [h1]), h2, if_neg (by rw [beq_iff_eq]; omega)]
    simp
theorem cut_no {c : UInt8} {l : List UInt8} (h : c ∉ l) : Lib.cut l [c] = (l, [], false) := by
  unfold Lib.cut; rw [index_no h, if_neg (by decide)]
theorem cut_at {c : UInt8} {a b : List UInt8} (h : c ∉ a) : Lib.cut (a ++ c :: b) [c] = (a, b, true) := by
  unfold Lib.cut; rw [index_at h, if_pos (by omega)]
  simp
theorem split_no {c : UInt8} {l : List UInt8} (h : c ∉ l) : Lib.split l [c] = [l] := by
  unfold Lib.split; rw [Lib.count_miss (index_no h)]; rfl
theorem split_at {c : UInt8} {a b : List UInt8} (h : c ∉ a) : Lib.split (a ++ c :: b) [c] = a :: Lib.split b [c] := by
  have hi : Lib.index (a ++ c :: b) [c] = (a.length : Int) := index_at h
  unfold Lib.split
  rw [Lib.count_hit (by simp) hi]
  have hd : (a ++ c :: b).drop (a.length + [c].length) = b := by
    rw [List.drop_append]; simp
  rw [hd, Nat.add_comm 1, Lib.splitK, if_neg (by rw [hi, beq_iff_eq]; omega), hi]
  have e1 : ((a.length : Int).toNat + 0) = a.length := by omega
  have e2 : ((a.length : Int).toNat + [c].length) = a.length + [c].length := by omega
  rw [e1, e2, hd, List.take_left]
theorem split_rest : ∀ (x : List UInt8) (l : List (List UInt8)), (46 : UInt8) ∉ x → (∀ y ∈ l, (46 : UInt8) ∉ y) → Lib.split (x ++ restT l) [46] = x :: l
  | x, [], h, _ => by rw [show restT [] = [] from rfl, List.append_nil]; exact split_no h
  | x, y :: l, h, hl => by
    rw [show restT (y :: l) = 46 :: (y ++ restT l) from rfl, split_at h, split_rest y l (hl y (by simp)) (fun z hz => hl z (by simp [hz]))]
/-- The number beside whatever error. -/
def atoiV (l : List UInt8) : Int := match Lib.atoiAll l with
  | .ok v => v
  | Lib.NumEnd.syntax => 0
  | .range => Lib.atoiSat l
theorem parse10 (B : Int) (hB : B ≤ 9223372036854775808) (l : List UInt8) : ∀ (acc : Nat), digsB l = true → (acc : Int) * 10 ^ l.length + valL l < B → Lib.parseUint10 acc l = .ok ((acc : Int) * 10 ^ l.length + valL l).toNat := by
  induction l with
  | nil =>
    intro acc _ _
    have e : (acc : Int) * 10 ^ ([] : List UInt8).length + valL [] = acc := by simp [valL]
    rw [e]
    rfl
  | cons c l ih =>
    intro acc hd hb
    simp only [digsB, List.all_cons, Bool.and_eq_true] at hd
    have hc := digB_iff.1 hd.1
    have hv := valL_bounds (s := l) hd.2
    have hp : (1 : Int) ≤ 10 ^ l.length := Int.pow_pos (show (0 : Int) < 10 by omega)
    have e : (acc : Int) * 10 ^ (c :: l).length + valL (c :: l) = (((acc * 10 + (c.toNat - 48) : Nat) : Int)) * 10 ^ l.length + valL l := by
      rw [valL_cons, List.length_cons, Int.pow_succ, ← Int.add_assoc]
      congr 1
      rw [show (10 : Int) ^ l.length * 10 = 10 * 10 ^ l.length from Int.mul_comm _ _, ← Int.mul_assoc, ← Int.add_mul]
      congr 1
      omega
    rw [e] at hb ⊢
    have hb2 : ((acc * 10 + (c.toNat - 48) : Nat) : Int) < B := by
      have := Int.mul_le_mul_of_nonneg_left hp (show 0 ≤ ((acc * 10 + (c.toNat - 48) : Nat) : Int) by omega)
      omega
    rw [Lib.parseUint10, if_pos hc, if_neg (by omega), if_neg (by omega)]
    exact ih _ hd.2 hb
theorem atoi_digS {n : Int} (h : inB n 0 1000000000 = true) : Lib.atoiAll (digS n) = .ok n := by
  have h1 := inB_true.1 h
  have hd := digS_digs n
  have hv : valL (digS n) = n := by unfold digS; rw [dS_val]; omega
  have hp := parse10 9223372036854775808 (Int.le_refl _) (digS n) 0 hd (by rw [hv]; simp; omega)
  have hne : digS n ≠ [] := dS_ne _
  rw [hv] at hp
  cases hl : digS n with
  | nil => exact absurd hl hne
  | cons c r =>
    rw [hl] at hp hd
    simp only [digsB, List.all_cons, Bool.and_eq_true] at hd
    have hc := digB_iff.1 hd.1
    have hm : Lib.parseMag (c :: r) = .ok n.toNat := by
      unfold Lib.parseMag
      rw [if_neg (by simp), hp]
      simp
    unfold Lib.atoiAll
    simp only
    rw [if_neg (by omega), hm]
    simp only
    rw [if_neg (by omega), if_neg (by omega), if_neg (by omega)]
    congr 1
    omega
def progTry (s : List UInt8) : Option Ver :=
  if (Lib.split (Lib.cut s [45]).1 [46]).length ≠ 3 then none
  else some ⟨atoiV ((Lib.split (Lib.cut s [45]).1 [46]).getD 0 []), atoiV ((Lib.split (Lib.cut s [45]).1 [46]).getD 1 []), atoiV ((Lib.split (Lib.cut s [45]).1 [46]).getD 2 []),
    if (Lib.cut s [45]).2.2 = true then (Lib.split (Lib.cut s [45]).2.1 [46]).map mkS else []⟩
def progParse (s : List UInt8) : Option Ver := match progTry s with
  | none => none
  | some v => if (vrF v).1 = 0 ∧ verT v = s then some v else none
theorem prog_verT {v : Ver} (h : v.Ok) : progTry (verT v) = some v := by
  have c46 : ∀ x ∈ v.pre.map bsl, (46 : UInt8) ∉ x := fun x hx => by
    obtain ⟨s, hs, rfl⟩ := List.mem_map.1 hx
    exact idc_dot (h.i s hs)
  have hcut : Lib.cut (verT v) [45] = (numT v, (preT (v.pre.map bsl)).drop 1, !(v.pre.map bsl).isEmpty) := by
    unfold verT
    cases hp : v.pre.map bsl with
    | nil => rw [preT, List.append_nil, cut_no (numT_no45 v)]; rfl
    | cons x l => rw [preT, List.cons_append, cut_at (numT_no45 v)]; rfl
  have hsp : Lib.split (numT v) [46] = [digS v.maj, digS v.min, digS v.pat] := by
    unfold numT
    rw [List.append_assoc, List.cons_append, split_at (digS_no46 _), split_at (digS_no46 _), split_no (digS_no46 _)]
  unfold progTry
  rw [hcut]
  simp only
  rw [hsp]
  simp only [List.length_cons, List.length_nil, List.getD_cons_zero, List.getD_cons_succ]
  rw [if_neg (by decide)]
  unfold atoiV
  rw [atoi_digS h.m1, atoi_digS h.m2, atoi_digS h.m3]
  simp only
  congr 1
  refine Ver.ext' rfl rfl rfl ?_
  simp only
  cases hp : v.pre.map bsl with
  | nil =>
    have : v.pre = [] := by simpa using hp
    rw [this]; rfl
  | cons x l =>
    rw [if_pos (by simp), preT, List.cons_append, List.drop_succ_cons, List.drop_zero, split_rest x l (c46 x (by simp [hp])) (fun y hy => c46 y (by simp [hp, hy])), ← hp, map_mkS]
theorem prog_iff {s : List UInt8} {v : Ver} : progParse s = some v ↔ v.Ok ∧ verT v = s := by
  constructor
  · intro h
    unfold progParse at h
    split at h
    · cases h
    · split at h
      · rename_i hc
        cases h
        refine ⟨?_, hc.2⟩
        rcases vrF_cases v with ⟨-, ok⟩ | h2
        · exact ok
        · exact absurd hc.1 h2
      · cases h
  · rintro ⟨h1, rfl⟩
    unfold progParse
    rw [prog_verT h1]
    show (if (vrF v).1 = 0 ∧ verT v = verT v then some v else none) = _
    rw [if_pos ⟨by rw [vrF_ok h1], rfl⟩]
/-- The program and the reference read the same. -/
theorem parse_same (s : List UInt8) : progParse s = refParse s := by
  cases h : refParse s with
  | some v => exact prog_iff.2 (ref_iff.1 h)
  | none =>
    cases h2 : progParse s with
    | none => rfl
    | some v => rw [ref_iff.2 (prog_iff.1 h2)] at h; cases h
end Pl
end Go.Proofs.YtgngehfgcogceaaGreatDoor

end
section
/- Texts of ranges in plain words: splitting at separators, terms, alternatives. No program in sight. -/
namespace Go.Proofs.YtgngehfgcogceaaGreatDoor
namespace Pl
def barS : List UInt8 := [32, 124, 124, 32]
theorem bars_no {s : List UInt8} (h : ∀ j, j ≤ s.length → Lib.occAt s barS j = false) : Lib.split s barS = [s] := by
  unfold Lib.split; rw [Lib.count_miss (Lib.index_none h)]; rfl
/-! Terms -/
def opB (c : UInt8) : Bool := c == 62 || c == 60 || c == 61 || c == 94 || c == 126
def upR (v : Ver) : List Ivl := [⟨v, Ver.zero, true⟩]
def oneR (a b : Ver) : List Ivl := if verCmp a b < 0 then [⟨a, b, false⟩] else []
def capV (v : Ver) : Ver := if v.maj ≠ 0 then ⟨v.maj + 1, 0, 0, [zeroId]⟩ else if v.min ≠ 0 then ⟨0, v.min + 1, 0, [zeroId]⟩ else ⟨0, 0, v.pat + 1, [zeroId]⟩
def tilV (v : Ver) : Ver := ⟨v.maj, v.min + 1, 0, [zeroId]⟩
/-- The bound that an operator makes of a version. -/
def bndV (op : List UInt8) (v : Ver) : Ver := if op = [126] then tilV v else if op = [94] then capV v else verNext v
def opR (op : List UInt8) (v : Ver) : List Ivl × Int :=
  if op = [62, 61] then (upR v, 0) else if op = [60] then (oneR lowV v, 0)
  else if (vrF (bndV op v)).1 ≠ 0 then ([], 10)
  else if op = [62] then (upR (bndV op v), 0) else if op = [60, 61] then (oneR lowV (bndV op v), 0) else (oneR v (bndV op v), 0)
def opsL : List (List UInt8) := [[62, 61], [60, 61], [62], [60], [61], [94], [126]]
/-- A term, as the reference reads it. -/
def termR (s : List UInt8) : List Ivl × Int :=
  if s = [42] then (upR lowV, 0) else match refParse (s.dropWhile opB) with
  | none => ([], 1)
  | some v => if s.takeWhile opB ∈ opsL then opR (s.takeWhile opB) v else ([], 1)
/-- A term, as the program reads it. -/
def tryOps (s : List UInt8) : List (List UInt8) → List Ivl × Int
  | [] => ([], 1)
  | op :: r => if op.isPrefixOf s = true then (match refParse (s.drop op.length) with
    | none => ([], 1)
    | some v => opR op v) else tryOps s r
def termP (s : List UInt8) : List Ivl × Int := if s = [42] then (upR lowV, 0) else tryOps s opsL

theorem dig_noop {c : UInt8} (h : digB c = true) : opB c = false := by
  have := digB_iff.1 h
  unfold opB
  simp only [Bool.or_eq_false_iff, beq_eq_false_iff_ne, ne_eq, ← UInt8.toNat_inj]
  have e1 : (62 : UInt8).toNat = 62 := rfl
  have e2 : (60 : UInt8).toNat = 60 := rfl
  have e3 : (61 : UInt8).toNat = 61 := rfl
  have e4 : (94 : UInt8).toNat = 94 := rfl
  have e5 : (126 : UInt8).toNat = 126 := rfl
  omega
theorem verT_head (v : Ver) : ∃ c r, verT v = c :: r ∧ digB c = true := by
  have h1 := dS_ne v.maj.toNat
  have h2 := digS_digs v.maj
  unfold verT numT
  cases e : digS v.maj with
  | nil => exact absurd e h1
  | cons c r =>
    rw [e] at h2
    simp only [digsB, List.all_cons, Bool.and_eq_true] at h2
    exact ⟨c, _, rfl, h2.1⟩
theorem parse_noop {t : List UInt8} {v : Ver} (h : refParse t = some v) : t.takeWhile opB = [] ∧ t.dropWhile opB = t := by
  obtain ⟨-, e⟩ := ref_iff.1 h
  obtain ⟨c, r, e2, hc⟩ := verT_head v
  rw [← e, e2, List.takeWhile_cons, List.dropWhile_cons, dig_noop hc]
  exact ⟨rfl, rfl⟩
theorem term_hit {op t : List UInt8} {v : Ver} (ho : ∀ c ∈ op, opB c = true) (hm : op ∈ opsL) (h : refParse t = some v) (hs : op ++ t ≠ [42]) : termR (op ++ t) = opR op v := by
  obtain ⟨h1, h2⟩ := parse_noop h
  unfold termR
  rw [if_neg hs, List.dropWhile_append_of_pos ho, List.takeWhile_append_of_pos ho, h1, h2, List.append_nil, h]
  simp only
  rw [if_pos hm]
theorem take_prefix (p : UInt8 → Bool) (s : List UInt8) : s.takeWhile p <+: s := ⟨_, List.takeWhile_append_dropWhile⟩
theorem term_step {op s : List UInt8} (ho : ∀ c ∈ op, opB c = true) (hm : op ∈ opsL) (hs : s ≠ [42]) (hp : op <+: s) (hx : ∀ c u, op ++ c :: u ∈ opsL → op ++ c :: u <+: s → False) :
    (match refParse (s.drop op.length) with
    | none => ([], 1)
    | some v => opR op v) = termR s := by
  obtain ⟨t, rfl⟩ := hp
  rw [List.drop_left]
  cases h : refParse t with
  | some v => exact (term_hit ho hm h hs).symm
  | none =>
    simp only
    unfold termR
    rw [if_neg hs, List.dropWhile_append_of_pos ho, List.takeWhile_append_of_pos ho]
    cases e : refParse (t.dropWhile opB) with
    | none => rfl
    | some v =>
      simp only
      rw [if_neg]
      intro hm
      cases e2 : t.takeWhile opB with
      | nil =>
        have e3 : t.dropWhile opB = t := by have := List.takeWhile_append_dropWhile (p := opB) (l := t); rw [e2] at this; simpa using this
        rw [e3, h] at e; cases e
      | cons c u =>
        rw [e2] at hm
        refine hx c u hm ?_
        obtain ⟨z, hz⟩ := take_prefix opB t
        rw [e2] at hz
        exact ⟨z, by rw [← hz, List.append_assoc]⟩
theorem term_same (s : List UInt8) : termP s = termR s := by
  unfold termP
  by_cases h42 : s = [42]
  · rw [if_pos h42]; unfold termR; rw [if_pos h42]
  · rw [if_neg h42]
    unfold opsL
    simp only [tryOps, List.isPrefixOf_iff_prefix]
    by_cases p1 : [62, 61] <+: s
    · rw [if_pos p1]; exact term_step (by decide) (by decide) h42 p1 (fun c u h _ => by simp [opsL] at h)
    rw [if_neg p1]
    by_cases p2 : [60, 61] <+: s
    · rw [if_pos p2]; exact term_step (by decide) (by decide) h42 p2 (fun c u h _ => by simp [opsL] at h)
    rw [if_neg p2]
    by_cases p3 : [62] <+: s
    · rw [if_pos p3]; exact term_step (by decide) (by decide) h42 p3 (fun c u h g => by simp [opsL] at h; obtain ⟨rfl, rfl⟩ := h; exact p1 g)
    rw [if_neg p3]
    by_cases p4 : [60] <+: s
    · rw [if_pos p4]; exact term_step (by decide) (by decide) h42 p4 (fun c u h g => by simp [opsL] at h; obtain ⟨rfl, rfl⟩ := h; exact p2 g)
    rw [if_neg p4]
    by_cases p5 : [61] <+: s
    · rw [if_pos p5]; exact term_step (by decide) (by decide) h42 p5 (fun c u h _ => by simp [opsL] at h)
    rw [if_neg p5]
    by_cases p6 : [94] <+: s
    · rw [if_pos p6]; exact term_step (by decide) (by decide) h42 p6 (fun c u h _ => by simp [opsL] at h)
    rw [if_neg p6]
    by_cases p7 : [126] <+: s
    · rw [if_pos p7]; exact term_step (by decide) (by decide) h42 p7 (fun c u h _ => by simp [opsL] at h)
    rw [if_neg p7]
    unfold termR
    rw [if_neg h42]
    cases e : refParse (s.dropWhile opB) with
    | none => rfl
    | some v =>
      simp only
      rw [if_neg]
      intro hm
      have hp := take_prefix opB s
      unfold opsL at hm
      simp only [List.mem_cons, List.not_mem_nil, or_false] at hm
      rcases hm with h | h | h | h | h | h | h <;> rw [h] at hp
      · exact p1 hp
      · exact p2 hp
      · exact p3 hp
      · exact p4 hp
      · exact p5 hp
      · exact p6 hp
      · exact p7 hp

theorem upR_can {v : Ver} (h : v.Ok) : Can (upR v) := Can.one ⟨h, zero_ok, fun _ => rfl, fun h => Bool.noConfusion h⟩
theorem oneR_can {a b : Ver} (ha : a.Ok) (hb : b.Ok) : Can (oneR a b) := by
  unfold oneR
  split
  · rename_i h; exact Can.one ⟨ha, hb, fun h => Bool.noConfusion h, fun _ => h⟩
  · exact Can.nil
theorem opR_can {op : List UInt8} {v : Ver} (h : v.Ok) : Can (opR op v).1 := by
  unfold opR
  split
  · exact upR_can h
  split
  · exact oneR_can lowV_ok h
  split
  · exact Can.nil
  rename_i hb
  have ok : (bndV op v).Ok := vr_ok (by simpa using hb)
  split
  · exact upR_can ok
  split
  · exact oneR_can lowV_ok ok
  · exact oneR_can h ok
theorem termR_can (s : List UInt8) : Can (termR s).1 := by
  unfold termR
  split
  · exact upR_can lowV_ok
  split
  · exact Can.nil
  rename_i v h
  split
  · exact opR_can (ref_iff.1 h).1
  · exact Can.nil
/-! Alternatives -/
def altF : List Ivl → List (List UInt8) → List Ivl × Int
  | acc, [] => (acc, 0)
  | acc, t :: ts => if (termR t).2 ≠ 0 then ([], (termR t).2) else altF (commonR acc (termR t).1) ts
def altR (s : List UInt8) : List Ivl × Int := altF (upR lowV) (Lib.split s [32])
def altsF : List Ivl → Nat → List (List UInt8) → List Ivl × (Int × Int)
  | out, _, [] => (out, 0, 0)
  | out, i, a :: l => if (altR a).2 ≠ 0 then ([], (altR a).2, (i : Int)) else altsF (unionR out (altR a).1) (i + 1) l
def rngP (s : List UInt8) : List Ivl × (Int × Int) :=
  if (altsF [] 0 (Lib.split s barS)).2.1 ≠ 0 then altsF [] 0 (Lib.split s barS)
  else if 12 < (altsF [] 0 (Lib.split s barS)).1.length then ([], 10, -3) else altsF [] 0 (Lib.split s barS)
theorem altF_can : ∀ {ts : List (List UInt8)} {acc : List Ivl}, Can acc → Can (altF acc ts).1
  | [], _, h => h
  | t :: ts, acc, h => by
    rw [altF]
    split
    · exact Can.nil
    · exact altF_can (commonR_can h (termR_can t)).1
theorem altR_can (s : List UInt8) : Can (altR s).1 := altF_can (upR_can lowV_ok)
end Pl
end Go.Proofs.YtgngehfgcogceaaGreatDoor

end
section
/- The text of a range, read again, is the range. No program in sight. -/
namespace Go.Proofs.YtgngehfgcogceaaGreatDoor
namespace Pl
theorem verT_chars {v : Ver} (h : v.Ok) : ∀ c ∈ verT v, idcB c = true ∨ c = 46 := by
  have hd : ∀ (n : Int), ∀ c ∈ digS n, idcB c = true := fun n c hc => by
    have := List.all_eq_true.1 (digS_digs n) c hc
    unfold idcB; rw [this]; rfl
  have hr : ∀ l : List (List UInt8), (∀ x ∈ l, ∀ c ∈ x, idcB c = true) → ∀ c ∈ restT l, idcB c = true ∨ c = 46 := by
    intro l hl c hc
    obtain ⟨x, hx, hc⟩ := List.mem_flatMap.1 hc
    rcases List.mem_cons.1 hc with rfl | hc
    · exact .inr rfl
    · exact .inl (hl x hx c hc)
  have hid : ∀ x ∈ v.pre.map bsl, ∀ c ∈ x, idcB c = true := fun x hx c hc => by
    obtain ⟨s, hs, rfl⟩ := List.mem_map.1 hx
    exact List.all_eq_true.1 (identB_iff.1 (h.i s hs)).2.2.1 c hc
  intro c hc
  unfold verT numT at hc
  rcases List.mem_append.1 hc with hc | hc
  · simp only [List.mem_append, List.mem_cons, List.append_assoc, List.cons_append] at hc
    rcases hc with hc | rfl | hc | rfl | hc
    · exact .inl (hd _ c hc)
    · exact .inr rfl
    · exact .inl (hd _ c hc)
    · exact .inr rfl
    · exact .inl (hd _ c hc)
  · cases e : v.pre.map bsl with
    | nil => rw [e] at hc; exact (List.not_mem_nil hc).elim
    | cons x l =>
      rw [e] at hc hid
      simp only [preT, List.cons_append, List.mem_cons, List.mem_append] at hc
      rcases hc with rfl | hc | hc
      · exact .inl (by decide)
      · exact .inl (hid x (by simp) c hc)
      · exact hr l (fun y hy => hid y (by simp [hy])) c hc
theorem verT_no {v : Ver} (h : v.Ok) {c : UInt8} (h1 : idcB c = false) (h2 : c ≠ 46) : c ∉ verT v := fun hm => by
  rcases verT_chars h c hm with e | e
  · rw [h1] at e; cases e
  · exact h2 e
theorem occ_bar {s : List UInt8} {j : Nat} (h : Lib.occAt s barS j = true) : s[j]? = some 32 ∧ s[j + 1]? = some 124 := by
  unfold Lib.occAt at h
  obtain ⟨t, ht⟩ := List.isPrefixOf_iff_prefix.1 h
  have e0 := congrArg (fun l : List UInt8 => l[0]?) ht
  have e1 := congrArg (fun l : List UInt8 => l[1]?) ht
  simp only [List.getElem?_drop] at e0 e1
  exact ⟨e0.symm, e1.symm⟩
theorem bar_no {s : List UInt8} (h : (124 : UInt8) ∉ s) : ∀ j, j ≤ s.length → Lib.occAt s barS j = false := fun j _ => by
  cases e : Lib.occAt s barS j with
  | false => rfl
  | true => exact absurd (List.mem_of_getElem? (occ_bar e).2) h
theorem com_all {r : List Ivl} (h : Can r) : commonR (upR lowV) r = r := by
  obtain ⟨h1, h2⟩ := commonR_can (upR_can lowV_ok) h
  refine can_ext h1 h fun v hv => ?_
  rw [h2, show hasB (upR lowV) v = true from by rw [upR, hasB_one]; exact inI_iff.2 ⟨lowV_least hv, .inl rfl⟩, Bool.true_and]
theorem altF_one {acc : List Ivl} {t : List UInt8} {ts : List (List UInt8)} {R : List Ivl} (h : termR t = (R, 0)) : altF acc (t :: ts) = altF (commonR acc R) ts := by
  rw [altF, h, if_neg (by simp)]
end Pl
end Go.Proofs.YtgngehfgcogceaaGreatDoor

end
