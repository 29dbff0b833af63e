/- Texts joined. -/
import Derived.Test.YtolfgcoalihmgaaGreatDoorZMQg
namespace Go.Proofs.YtolfgcoalihmgaaGreatDoor
section
namespace Pl
theorem numAt_eq {ch : List Int} {p : Nat} (h : p < ch.length) : numAt ch p = ch[p] := by
 unfold numAt
 rw [List.getD_eq_getElem?_getD, List.getElem?_eq_getElem h]; rfl
theorem numAt_far {ch : List Int} {p : Nat} (h : ch.length ≤ p) : numAt ch p = -1 := by
 unfold numAt
 rw [List.getD_eq_getElem?_getD, List.getElem?_eq_none h]; rfl
open Classical in
noncomputable def cut (u : Uni) (ws : List Need) (ch : List Int) : List Int := (List.range ch.length).map fun p => if Rch u ws ch p then numAt ch p else -1
theorem cutF_len {u : Uni} {ws : List Need} {ch : List Int} : (cut u ws ch).length = ch.length := by unfold cut; rw [List.length_map, List.length_range]
open Classical in
theorem cut_num (u : Uni) (ws : List Need) (ch : List Int) (p : Nat) : numAt (cut u ws ch) p = if Rch u ws ch p then numAt ch p else -1 := by
 by_cases h : p < ch.length
 · rw [numAt_eq (by rw [cutF_len]; exact h)]
   unfold cut
   rw [List.getElem_map, List.getElem_range]
 · rw [numAt_far (by rw [cutF_len]; omega), numAt_far (ch := ch) (by omega), ite_self]
theorem cut_in {u : Uni} {ws : List Need} {ch : List Int} {p : Nat} (h : Rch u ws ch p) : numAt (cut u ws ch) p = numAt ch p := by rw [cut_num, if_pos h]
theorem cut_needs {u : Uni} {ws : List Need} {ch : List Int} {p : Nat} (h : Rch u ws ch p) : needsAt u (cut u ws ch) p = needsAt u ch p := by
 unfold needsAt
 rw [cut_in h]
theorem cut_sat {u : Uni} {ws : List Need} {ch : List Int} {d : Need} (h : Rch u ws ch d.at') : satB u (cut u ws ch) d = satB u ch d := by
 unfold satB
 rw [cut_in h]
theorem Rch.wants {u : Uni} {ws vs : List Need} {ch : List Int} (hs : ∀ d ∈ vs, d ∈ ws) {p : Nat} (h : Rch u vs ch p) : Rch u ws ch p := by
 induction h with
 | want hd => exact .want (hs _ hd)
 | step _ hd ih => exact .step ih hd
theorem cut_rch {u : Uni} {ws : List Need} {ch : List Int} {p : Nat} (h : Rch u ws ch p) : Rch u ws (cut u ws ch) p := by
 induction h with
 | want hd => exact .want hd
 | step h hd ih => exact .step ih (by rw [cut_needs h]; exact hd)
theorem cut_sol {u : Uni} {ws vs : List Need} {ch : List Int} (hs : ∀ d ∈ vs, d ∈ ws) (h : Sol u ws ch) : Sol u vs (cut u vs ch) := by
 refine ⟨fun d hd => by rw [cut_sat (.want hd)]; exact h.sat0 d (hs d hd), fun p hp h0 => ?_⟩
 rw [cut_num] at h0
 by_cases r : Rch u vs ch p
 · refine ⟨cut_rch r, fun d hd => ?_⟩
   rw [cut_needs r] at hd
   rw [cut_sat (.step r hd)]
   exact (h.all p (numAt_lt (needsAt_num hd)) (needsAt_num hd)).2 d hd
 · rw [if_neg r] at h0
   exact absurd h0 (by decide)
theorem cut_ok {u : Uni} {ws : List Need} {ch : List Int} (h : ChOk u ch) : ChOk u (cut u ws ch) := by
 refine ⟨by rw [cutF_len]; exact h.len, fun k hk hg => ?_⟩
 have e := numAt_eq hk
 rw [cut_num] at e
 rw [← e]
 have h2 := h.at' k (by rw [← cutF_len (u := u) (ws := ws)]; exact hk) hg
 rw [← numAt_eq] at h2
 split
 · exact h2
 · exact ⟨Int.le_refl _, by omega⟩
theorem fewer_easier {u : Uni} {ws vs : List Need} (hu : u.length ≤ 6) (hs : ∀ d ∈ vs, d ∈ ws) (h : (best u ws).isSome = true) : (best u vs).isSome = true := by
 cases e : best u ws with
 | none => rw [e] at h; cases h
 | some l =>
   have hb := (best_some hu).1 e
   cases e2 : best u vs with
   | none => exact absurd (cut_sol hs hb.sol) ((best_none hu).1 e2 _ (cut_ok hb.ok))
   | some m => rfl
end Pl
end
section
namespace Pl
def less1 (u : Uni) (p k : Nat) : Uni := u.set p ((u.getD p []).eraseIdx k)
def upI (k : Nat) (x : Int) : Int := if (k : Int) ≤ x then x + 1 else x
def dnI (k : Nat) (x : Int) : Int := if (k : Int) < x then x - 1 else x
def upS (p k : Nat) (m : List Int) : List Int := m.set p (upI k (numAt m p))
def dnS (p k : Nat) (m : List Int) : List Int := m.set p (dnI k (numAt m p))
theorem numAt_set {m : List Int} {p : Nat} (hp : p < m.length) (x : Int) (q : Nat) : numAt (m.set p x) q = if p = q then x else numAt m q := by
 unfold numAt
 rw [List.getD_eq_getElem?_getD, List.getD_eq_getElem?_getD, List.getElem?_set]
 by_cases e : p = q
 · subst e; rw [if_pos rfl, if_pos hp, if_pos rfl]; rfl
 · rw [if_neg e, if_neg e]
theorem up_dn {k : Nat} {x : Int} (h : x ≠ k) : upI k (dnI k x) = x := by
 unfold upI dnI
 split <;> split <;> omega
theorem up_inj {k : Nat} {x y : Int} (h : upI k x = upI k y) : x = y := by
 unfold upI at h
 split at h <;> split at h <;> omega
theorem up_lt {k : Nat} {x y : Int} : upI k x < upI k y ↔ x < y := by
 unfold upI
 split <;> split <;> omega
theorem up_neg {k : Nat} {x : Int} : 0 ≤ upI k x ↔ 0 ≤ x := by
 unfold upI
 split <;> omega
theorem less1_len (u : Uni) (p k : Nat) : (less1 u p k).length = u.length := List.length_set ..
theorem less1_get (u : Uni) {p : Nat} (hp : p < u.length) (k q : Nat) : (less1 u p k)[q]? = if p = q then some (u[p].eraseIdx k) else u[q]? := by
 unfold less1
 rw [List.getElem?_set, List.getD_eq_getElem?_getD, List.getElem?_eq_getElem hp]
 by_cases e : p = q
 · rw [if_pos e, if_pos hp, if_pos e]; rfl
 · rw [if_neg e, if_neg e]
theorem erase_up {α : Type} {l : List α} {k : Nat} {x : Int} (h : 0 ≤ x) : (l.eraseIdx k)[x.toNat]? = l[(upI k x).toNat]? := by
 rw [List.getElem?_eraseIdx]
 unfold upI
 by_cases c : (k : Int) ≤ x
 · rw [if_pos c, if_neg (by omega)]
   congr 1; omega
 · rw [if_neg c, if_pos (by omega)]
theorem hasAt_less {u : Uni} {p : Nat} (hp : p < u.length) (k : Nat) (d : Need) {x : Int} (h : 0 ≤ x) : hasAt (less1 u p k) d x.toNat = hasAt u d (if p = d.at' then upI k x else x).toNat := by
 unfold hasAt
 rw [less1_get u hp]
 by_cases e : p = d.at'
 · rw [if_pos e, if_pos e, ← e, List.getElem?_eq_getElem hp]
   simp only [erase_up h]
 · rw [if_neg e, if_neg e]
theorem needsOf_less {u : Uni} {p : Nat} (hp : p < u.length) (k q : Nat) {x : Int} (h : 0 ≤ x) : needsOf (less1 u p k) q x.toNat = needsOf u q (if p = q then upI k x else x).toNat := by
 unfold needsOf
 rw [less1_get u hp]
 by_cases e : p = q
 · subst e
   rw [if_pos rfl, if_pos rfl, List.getElem?_eq_getElem hp]
   simp only [erase_up h]
 · rw [if_neg e, if_neg e]
theorem upS_num {p k : Nat} {m : List Int} (hp : p < m.length) (q : Nat) : numAt (upS p k m) q = if p = q then upI k (numAt m q) else numAt m q := by
 unfold upS
 rw [numAt_set hp]
 by_cases e : p = q
 · subst e; rfl
 · rw [if_neg e, if_neg e]
theorem satB_less {u : Uni} {p k : Nat} {m : List Int} (hp : p < u.length) (hm : p < m.length) (d : Need) : satB u (upS p k m) d = satB (less1 u p k) m d := by
 unfold satB
 rw [upS_num hm]
 by_cases c : 0 ≤ numAt m d.at'
 · rw [hasAt_less hp k d c, decide_eq_true c]
   by_cases e : p = d.at'
   · rw [if_pos e, decide_eq_true (up_neg.2 c)]
   · rw [if_neg e, decide_eq_true c]
 · rw [decide_eq_false c, Bool.false_and]
   by_cases e : p = d.at'
   · rw [if_pos e, decide_eq_false (fun h => c (up_neg.1 h)), Bool.false_and]
   · rw [if_neg e, decide_eq_false c, Bool.false_and]
theorem needsAt_less {u : Uni} {p k : Nat} {m : List Int} (hp : p < u.length) (hm : p < m.length) (q : Nat) : needsAt u (upS p k m) q = needsAt (less1 u p k) m q := by
 unfold needsAt
 rw [upS_num hm]
 by_cases c : 0 ≤ numAt m q
 · rw [needsOf_less hp k q c, if_pos c]
   by_cases e : p = q
   · rw [if_pos e, if_pos (up_neg.2 c)]
   · rw [if_neg e, if_pos c]
 · rw [if_neg c]
   by_cases e : p = q
   · rw [if_pos e, if_neg (fun h => c (up_neg.1 h))]
   · rw [if_neg e, if_neg c]
theorem rch_less {u : Uni} {ws : List Need} {p k : Nat} {m : List Int} (hp : p < u.length) (hm : p < m.length) {q : Nat} : Rch u ws (upS p k m) q ↔ Rch (less1 u p k) ws m q := by
 constructor
 · intro h
   induction h with
   | want hd => exact .want hd
   | step _ hd ih => exact .step ih (by rw [← needsAt_less hp hm]; exact hd)
 · intro h
   induction h with
   | want hd => exact .want hd
   | step _ hd ih => exact .step ih (by rw [needsAt_less hp hm]; exact hd)
theorem sol_less {u : Uni} {ws : List Need} {p k : Nat} {m : List Int} (hp : p < u.length) (hm : p < m.length) : Sol u ws (upS p k m) ↔ Sol (less1 u p k) ws m := by
 have hl : (upS p k m).length = m.length := List.length_set ..
 have hn : ∀ q, 0 ≤ numAt (upS p k m) q ↔ 0 ≤ numAt m q := fun q => by
  rw [upS_num hm]
  split
  · exact up_neg
  · exact Iff.rfl
 constructor
 · intro h
   refine ⟨fun d hd => by rw [← satB_less hp hm]; exact h.sat0 d hd, fun q hq h0 => ?_⟩
   obtain ⟨h1, h2⟩ := h.all q (by rw [hl]; exact hq) ((hn q).2 h0)
   exact ⟨(rch_less hp hm).1 h1, fun d hd => by rw [← satB_less hp hm]; exact h2 d (by rw [needsAt_less hp hm]; exact hd)⟩
 · intro h
   refine ⟨fun d hd => by rw [satB_less hp hm]; exact h.sat0 d hd, fun q hq h0 => ?_⟩
   obtain ⟨h1, h2⟩ := h.all q (by rw [← hl]; exact hq) ((hn q).1 h0)
   exact ⟨(rch_less hp hm).2 h1, fun d hd => by rw [satB_less hp hm]; exact h2 d (by rw [← needsAt_less hp hm]; exact hd)⟩
theorem lex_up {k : Nat} : ∀ {p : Nat} {l m : List Int}, l.length = m.length → lexLt (upS p k l) (upS p k m) = lexLt l m
 | _, [], [], _ => by unfold upS; simp
 | 0, a :: l, b :: m, h => by
   have e1 : upS 0 k (a :: l) = upI k a :: l := rfl
   have e2 : upS 0 k (b :: m) = upI k b :: m := rfl
   rw [e1, e2]
   unfold lexLt
   by_cases c : a = b
   · subst c; simp
   · have c2 : ¬ upI k a = upI k b := fun e => c (up_inj e)
     rw [if_neg c, if_neg c2, decide_eq_decide]
     exact up_lt
 | p + 1, a :: l, b :: m, h => by
   have e1 : upS (p + 1) k (a :: l) = a :: upS p k l := rfl
   have e2 : upS (p + 1) k (b :: m) = b :: upS p k m := rfl
   have ih := lex_up (k := k) (p := p) (l := l) (m := m) (by simpa using h)
   rw [e1, e2]
   unfold lexLt
   rw [ih]
theorem upS_dn {p k : Nat} {m : List Int} (hp : p < m.length) (h : numAt m p ≠ k) : upS p k (dnS p k m) = m := by
 unfold upS dnS
 rw [numAt_set hp, if_pos rfl, up_dn h, List.set_set]
 rw [numAt_eq hp, List.set_getElem_self]
theorem ok_less {u : Uni} {p k : Nat} {m : List Int} (hp : p < u.length) (hk : k < u[p].length) (hl : m.length = u.length) : ChOk (less1 u p k) m ↔ ChOk u (upS p k m) ∧ numAt (upS p k m) p ≠ k := by
 have hm : p < m.length := by omega
 have hs : (upS p k m).length = m.length := List.length_set ..
 have key : ∀ q (hq : q < m.length) (hg : q < u.length) (hv : q < (less1 u p k).length), (less1 u p k)[q].length = if p = q then u[q].length - 1 else u[q].length := fun q hq hg hv => by
  have e := less1_get u hp k q
  rw [List.getElem?_eq_getElem hv] at e
  by_cases c : p = q
  · subst c
    rw [if_pos rfl] at e ⊢
    rw [Option.some.inj e, List.length_eraseIdx, if_pos hk]
  · rw [if_neg c, List.getElem?_eq_getElem hg] at e
    rw [if_neg c, Option.some.inj e]
 have num : ∀ q (hq : q < m.length), (upS p k m)[q]'(by rw [hs]; exact hq) = if p = q then upI k m[q] else m[q] := fun q hq => by
  rw [← numAt_eq, upS_num hm, numAt_eq hq]
 constructor
 · intro h
   refine ⟨⟨by rw [hs]; exact hl, fun q hq hg => ?_⟩, ?_⟩
   · have hq' : q < m.length := by omega
     have h1 := h.at' q hq' (by rw [less1_len]; exact hg)
     rw [key q hq' hg] at h1
     rw [num q hq']
     by_cases c : p = q
     · subst c
       rw [if_pos rfl] at h1 ⊢
       unfold upI
       split <;> omega
     · rw [if_neg c] at h1 ⊢
       exact h1
   · rw [upS_num hm, if_pos rfl]
     unfold upI
     split <;> omega
 · rintro ⟨h, hne⟩
   refine ⟨by rw [less1_len]; exact hl, fun q hq hg => ?_⟩
   have hg' : q < u.length := by rw [less1_len] at hg; exact hg
   have h1 := h.at' q (by rw [hs]; exact hq) hg'
   rw [num q hq] at h1
   rw [key q hq hg']
   by_cases c : p = q
   · subst c
     rw [if_pos rfl] at h1 ⊢
     rw [upS_num hm, if_pos rfl, numAt_eq hm] at hne
     unfold upI at h1 hne
     split at h1 <;> omega
   · rw [if_neg c] at h1 ⊢
     exact h1
theorem best_less {u : Uni} {ws : List Need} {p k : Nat} {l : List Int} (hu : u.length ≤ 6) (hp : p < u.length) (hk : k < u[p].length) (h : best u ws = some l) (hne : numAt l p ≠ k) : best (less1 u p k) ws = some (dnS p k l) := by
 have hb := (best_some hu).1 h
 have hl := hb.ok.len
 have hd : (dnS p k l).length = l.length := List.length_set ..
 have e := upS_dn (p := p) (k := k) (m := l) (by omega) hne
 refine (best_some (by rw [less1_len]; exact hu)).2 ⟨(ok_less hp hk (by omega)).2 ⟨by rw [e]; exact hb.ok, by rw [e]; exact hne⟩, (sol_less hp (by omega)).1 (by rw [e]; exact hb.sol), fun m ok sol => ?_⟩
 have hml : m.length = u.length := by rw [ok.len, less1_len]
 rw [← lex_up (p := p) (k := k) (by omega), e]
 exact hb.top _ ((ok_less hp hk hml).1 ok).1 ((sol_less hp (by omega)).2 sol)
end Pl
end
section
namespace Pl
theorem inc_erase {α : Type} {R : α → α → Prop} (tr : ∀ a b c, R a b → R b c → R a c) {l : List α} (h : ∀ i (h : i + 1 < l.length), R (l[i]'(by omega)) l[i + 1]) (k : Nat) : ∀ i (g : i + 1 < (l.eraseIdx k).length), R ((l.eraseIdx k)[i]'(by omega)) (l.eraseIdx k)[i + 1] := fun i g => by
 have hl := List.length_eraseIdx (l := l) (i := k)
 simp only [List.getElem_eraseIdx]
 by_cases hk : k < l.length
 · rw [if_pos hk] at hl
   by_cases c : i + 1 < k
   · rw [dif_pos (by omega), dif_pos c]
     exact h i (by omega)
   · rw [dif_neg c]
     by_cases c2 : i < k
     · rw [dif_pos c2]
       exact tr _ _ _ (h i (by omega)) (h (i + 1) (by omega))
     · rw [dif_neg c2]
       exact h (i + 1) (by omega)
 · rw [if_neg hk] at hl
   rw [dif_pos (by omega), dif_pos (by omega)]
   exact h i (by omega)
theorem needs_erase {n : Int} {l : List Need} (h : NeedsOk n l) (k : Nat) : NeedsOk n (l.eraseIdx k) :=
 ⟨Nat.le_trans (List.length_eraseIdx_le ..) h.len, fun x hx => h.pk x (List.mem_of_mem_eraseIdx hx), fun x hx => h.rg x (List.mem_of_mem_eraseIdx hx), inc_erase (R := fun (a b : Need) => a.pk < b.pk) (fun _ _ _ h1 h2 => Int.lt_trans h1 h2) h.inc k⟩
theorem verCmp_lt_trans {a b c : Ver} (h1 : verCmp a b < 0) (h2 : verCmp b c < 0) : verCmp a c < 0 := verCmp_TO.lt_le trivial trivial trivial h1 (by omega)
theorem rels_erase {n : Int} {l : List Rel} (h : RelsOk n l) (k : Nat) : RelsOk n (l.eraseIdx k) :=
 ⟨Nat.le_trans (List.length_eraseIdx_le ..) h.len, fun x hx => h.v x (List.mem_of_mem_eraseIdx hx), fun x hx => h.ns x (List.mem_of_mem_eraseIdx hx), inc_erase (R := fun (a b : Rel) => verCmp a.v b.v < 0) (fun _ _ _ h1 h2 => verCmp_lt_trans h1 h2) h.inc k⟩
theorem uni_less {u : Uni} (h : UniOk u) (p k : Nat) : UniOk (less1 u p k) := by
 have hl := less1_len u p k
 refine ⟨by rw [hl]; exact h.len, fun x hx => ?_⟩
 rw [hl]
 unfold less1 at hx
 rcases List.mem_or_eq_of_mem_set hx with h1 | h1
 · exact h.rels x h1
 · subst h1
   by_cases hp : p < u.length
   · rw [List.getD_eq_getElem?_getD, List.getElem?_eq_getElem hp]
     exact rels_erase (h.rels _ (List.getElem_mem hp)) k
   · rw [List.getD_eq_getElem?_getD, List.getElem?_eq_none (by omega)]
     exact ⟨by simp, fun x hx => by simp at hx, fun x hx => by simp at hx, fun i hi => by simp at hi⟩
theorem fewer_law {u : Uni} {ws : List Need} (k : Nat) (h : (wantsF u ws).1 = 0) : (wantsF u (ws.eraseIdx k)).1 = 0 ∧ ((best u ws).isSome = true → (best u (ws.eraseIdx k)).isSome = true) := by
 obtain ⟨ou, on⟩ := wantsF_ok.1 h
 exact ⟨wantsF_ok.2 ⟨ou, needs_erase on k⟩, fewer_easier ou.len fun d hd => List.mem_of_mem_eraseIdx hd⟩
end Pl
end
end Go.Proofs.YtolfgcoalihmgaaGreatDoor
