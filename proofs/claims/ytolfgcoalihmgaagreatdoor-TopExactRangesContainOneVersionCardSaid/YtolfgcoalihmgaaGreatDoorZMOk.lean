/- Texts joined. -/
import Derived.Test.YtolfgcoalihmgaaGreatDoorZMKo
import Derived.Test.YtolfgcoalihmgaaGreatDoorZMOb
namespace Go.Proofs.YtolfgcoalihmgaaGreatDoor
section
namespace Pl
theorem rng_okx {r : List Ivl} (h : rngF r = (0, 0)) : ∀ x ∈ r, x.Ok := by
 rcases rngF_cases r with h1 | h1
 · exact h1.2.2.ok
 · exact absurd (by rw [h]) h1
def Need.at' (d : Need) : Nat := d.pk.toNat
def hasAt (u : Uni) (d : Need) (k : Nat) : Bool := match u[d.at']? with
 | some l => (match l[k]? with | some r => hasB d.rg r.v | none => false)
 | none => false
def numAt (ch : List Int) (p : Nat) : Int := ch.getD p (-1)
def satB (u : Uni) (ch : List Int) (d : Need) : Bool := decide (0 ≤ numAt ch d.at') && hasAt u d (numAt ch d.at').toNat
def needsOf (u : Uni) (p k : Nat) : List Need := match u[p]? with
 | some l => (match l[k]? with | some r => r.ns | none => [])
 | none => []
def needsAt (u : Uni) (ch : List Int) (p : Nat) : List Need := if 0 ≤ numAt ch p then needsOf u p (numAt ch p).toNat else []
inductive Rch (u : Uni) (ws : List Need) (ch : List Int) : Nat → Prop
 | want {d : Need} : d ∈ ws → Rch u ws ch d.at'
 | step {p : Nat} {d : Need} : Rch u ws ch p → d ∈ needsAt u ch p → Rch u ws ch d.at'
structure Sol (u : Uni) (ws : List Need) (ch : List Int) : Prop where
 sat0 : ∀ d ∈ ws, satB u ch d = true
 all : ∀ p, p < ch.length → 0 ≤ numAt ch p → Rch u ws ch p ∧ ∀ d ∈ needsAt u ch p, satB u ch d = true
theorem numAt_lt {ch : List Int} {p : Nat} (h : 0 ≤ numAt ch p) : p < ch.length := by
 by_cases c : p < ch.length
 · exact c
 · unfold numAt at h
   rw [List.getD_eq_getElem?_getD, List.getElem?_eq_none (by omega)] at h
   exact absurd h (by decide)
theorem satB_num {u : Uni} {ch : List Int} {d : Need} (h : satB u ch d = true) : 0 ≤ numAt ch d.at' := by
 unfold satB at h
 rw [Bool.and_eq_true, decide_eq_true_eq] at h
 exact h.1
theorem needsAt_num {u : Uni} {ch : List Int} {p : Nat} {d : Need} (h : d ∈ needsAt u ch p) : 0 ≤ numAt ch p := by
 unfold needsAt at h
 by_cases c : 0 ≤ numAt ch p
 · exact c
 · rw [if_neg c] at h; cases h
theorem Sol.rch {u : Uni} {ws : List Need} {ch : List Int} (h : Sol u ws ch) {p : Nat} (r : Rch u ws ch p) : 0 ≤ numAt ch p := by
 cases r with
 | want hd => exact satB_num (h.sat0 _ hd)
 | step _ hd => exact satB_num ((h.all _ (numAt_lt (needsAt_num hd)) (needsAt_num hd)).2 _ hd)
def From (u : Uni) (ws : List Need) (ch : List Int) (d : Need) : Prop := d ∈ ws ∨ ∃ p, Rch u ws ch p ∧ d ∈ needsAt u ch p
theorem From.rch {u : Uni} {ws : List Need} {ch : List Int} {d : Need} (h : From u ws ch d) : Rch u ws ch d.at' := by
 rcases h with h | ⟨p, h1, h2⟩
 · exact .want h
 · exact .step h1 h2
theorem Sol.sat {u : Uni} {ws : List Need} {ch : List Int} (h : Sol u ws ch) {d : Need} (f : From u ws ch d) : satB u ch d = true := by
 rcases f with f | ⟨p, _, h2⟩
 · exact h.sat0 _ f
 · exact (h.all p (numAt_lt (needsAt_num h2)) (needsAt_num h2)).2 _ h2
def wIn (u : Uni) (ch : List Int) : List Need → List (List Need) → List Bool → Option (List (List Need) × List Bool)
 | [], T, R => some (T, R)
 | d :: l, T, R => if satB u ch d = true then (if R.getD d.at' false = true then wIn u ch l T R else wIn u ch l (T ++ [needsAt u ch d.at']) (R.set d.at' true)) else none
def lastB (ch : List Int) (R : List Bool) : Bool := (List.range ch.length).all fun p => !(decide (0 ≤ numAt ch p) && !R.getD p false)
def wOut (u : Uni) (ch : List Int) : Nat → List (List Need) → List Bool → Bool
 | 0, _, _ => false
 | f + 1, T, R => match T.getLast? with
   | none => lastB ch R
   | some l => (match wIn u ch l T.dropLast R with | none => false | some s => wOut u ch f s.1 s.2)
def free (R : List Bool) : Nat := R.countP fun b => !b
def solB (u : Uni) (ws : List Need) (ch : List Int) : Bool := wOut u ch 14 [ws] (List.replicate 6 false)
theorem getD_set {R : List Bool} {p q : Nat} (b : Bool) : (R.set p b).getD q false = if p = q ∧ p < R.length then b else R.getD q false := by
 rw [List.getD_eq_getElem?_getD, List.getD_eq_getElem?_getD, List.getElem?_set]
 by_cases h : p = q
 · subst h
   by_cases g : p < R.length
   · rw [if_pos rfl, if_pos g, if_pos ⟨rfl, g⟩]; rfl
   · rw [if_pos rfl, if_neg g, if_neg (fun e => g e.2), List.getElem?_eq_none (by omega)]
 · rw [if_neg h, if_neg (fun e => h e.1)]
theorem getD_true_lt {R : List Bool} {p : Nat} (h : R.getD p false = true) : p < R.length := by
 by_cases c : p < R.length
 · exact c
 · rw [List.getD_eq_getElem?_getD, List.getElem?_eq_none (by omega)] at h; cases h
theorem free_set : ∀ {R : List Bool} {p : Nat}, p < R.length → R.getD p false = false → free (R.set p true) + 1 = free R
 | [], p, h, _ => absurd h (by simp)
 | b :: R, 0, _, h => by
   have : b = false := by simpa using h
   subst this
   simp [free]
 | b :: R, p + 1, h, g => by
   have := free_set (R := R) (p := p) (by simpa using h) (by simpa using g)
   unfold free at this ⊢
   rw [List.set_cons_succ, List.countP_cons, List.countP_cons]
   omega
structure WInv (u : Uni) (ws : List Need) (ch : List Int) (T : List (List Need)) (R : List Bool) (pend : List Need) : Prop where
 rl : R.length = 6
 rr : ∀ p, R.getD p false = true → Rch u ws ch p
 tt : ∀ l ∈ T, ∀ d ∈ l, From u ws ch d
 pp : ∀ d ∈ pend, From u ws ch d
 cw : ∀ d ∈ ws, (satB u ch d = true ∧ R.getD d.at' false = true) ∨ (∃ l ∈ T, d ∈ l) ∨ d ∈ pend
 cn : ∀ p, R.getD p false = true → ∀ d ∈ needsAt u ch p, (satB u ch d = true ∧ R.getD d.at' false = true) ∨ (∃ l ∈ T, d ∈ l) ∨ d ∈ pend
theorem wIn_law {u : Uni} {ws : List Need} {ch : List Int} (hch : ch.length ≤ 6) : ∀ (l : List Need) (T : List (List Need)) (R : List Bool), WInv u ws ch T R l →
 (wIn u ch l T R = none → ¬ Sol u ws ch) ∧ ∀ T' R', wIn u ch l T R = some (T', R') → WInv u ws ch T' R' [] ∧ 2 * free R' + T'.length ≤ 2 * free R + T.length
 | [], T, R, h => ⟨(by intro e; simp [wIn] at e), fun T' R' e => by
   simp only [wIn, Option.some.injEq, Prod.mk.injEq] at e
   obtain ⟨rfl, rfl⟩ := e
   exact ⟨h, nle⟩⟩
 | d :: l, T, R, h => by
   unfold wIn
   by_cases hs : satB u ch d = true
   · rw [if_pos hs]
     by_cases hr : R.getD d.at' false = true
     · rw [if_pos hr]
       refine wIn_law hch l T R ⟨h.rl, h.rr, h.tt, fun x hx => h.pp x (List.mem_cons_of_mem _ hx), fun x hx => ?_, fun p hp x hx => ?_⟩
       · rcases h.cw x hx with h1 | h1 | h1
         · exact .inl h1
         · exact .inr (.inl h1)
         · rcases List.mem_cons.1 h1 with rfl | h1
           · exact .inl ⟨hs, hr⟩
           · exact .inr (.inr h1)
       · rcases h.cn p hp x hx with h1 | h1 | h1
         · exact .inl h1
         · exact .inr (.inl h1)
         · rcases List.mem_cons.1 h1 with rfl | h1
           · exact .inl ⟨hs, hr⟩
           · exact .inr (.inr h1)
     · rw [if_neg hr]
       have hf : From u ws ch d := h.pp d List.mem_cons_self
       have hlt : d.at' < R.length := by have := numAt_lt (satB_num hs); have := h.rl; omega
       have hr' : R.getD d.at' false = false := by simpa using hr
       have mono : ∀ q, R.getD q false = true → (R.set d.at' true).getD q false = true := fun q hq => by
        rw [getD_set]; split
        · rfl
        · exact hq
       have self : (R.set d.at' true).getD d.at' false = true := by rw [getD_set, if_pos ⟨rfl, hlt⟩]
       have IH := wIn_law (ws := ws) hch l (T ++ [needsAt u ch d.at']) (R.set d.at' true) ⟨by rw [List.length_set, h.rl], fun p hp => ?_, fun k hk x hx => ?_, fun x hx => h.pp x (List.mem_cons_of_mem _ hx), fun x hx => ?_, fun p hp x hx => ?_⟩
       · refine ⟨IH.1, fun T' R' e => ?_⟩
         obtain ⟨h1, h2⟩ := IH.2 T' R' e
         refine ⟨h1, ?_⟩
         have := free_set hlt hr'
         rw [List.length_append, List.length_singleton] at h2
         omega
       · rw [getD_set] at hp
         split at hp
         · rename_i e; rw [← e.1]; exact hf.rch
         · exact h.rr p hp
       · rcases List.mem_append.1 hk with hk | hk
         · exact h.tt k hk x hx
         · rw [List.mem_singleton.1 hk] at hx
           exact .inr ⟨d.at', hf.rch, hx⟩
       · rcases h.cw x hx with ⟨h1, h2⟩ | ⟨k, h1, h2⟩ | h1
         · exact .inl ⟨h1, mono _ h2⟩
         · exact .inr (.inl ⟨k, List.mem_append_left _ h1, h2⟩)
         · rcases List.mem_cons.1 h1 with rfl | h1
           · exact .inl ⟨hs, self⟩
           · exact .inr (.inr h1)
       · rw [getD_set] at hp
         split at hp
         · rename_i e
           rw [← e.1] at hx
           exact .inr (.inl ⟨_, List.mem_append_right _ List.mem_cons_self, hx⟩)
         · rcases h.cn p hp x hx with ⟨h1, h2⟩ | ⟨k, h1, h2⟩ | h1
           · exact .inl ⟨h1, mono _ h2⟩
           · exact .inr (.inl ⟨k, List.mem_append_left _ h1, h2⟩)
           · rcases List.mem_cons.1 h1 with rfl | h1
             · exact .inl ⟨hs, self⟩
             · exact .inr (.inr h1)
   · rw [if_neg hs]
     exact ⟨fun _ hS => hs (hS.sat (h.pp d List.mem_cons_self)), fun _ _ e => by cases e⟩
theorem lastB_iff {ch : List Int} {R : List Bool} : lastB ch R = true ↔ ∀ p, p < ch.length → 0 ≤ numAt ch p → R.getD p false = true := by
 unfold lastB
 rw [List.all_eq_true]
 refine ⟨fun h p hp hn => ?_, fun h p hp => ?_⟩
 · have := h p (List.mem_range.2 hp)
   rw [decide_eq_true hn] at this
   simpa using this
 · by_cases c : 0 ≤ numAt ch p
   · rw [h p (List.mem_range.1 hp) c]; simp
   · rw [decide_eq_false c]; rfl
theorem last_law {u : Uni} {ws : List Need} {ch : List Int} {R : List Bool} (h : WInv u ws ch [] R []) : lastB ch R = true ↔ Sol u ws ch := by
 have hw : ∀ d ∈ ws, satB u ch d = true ∧ R.getD d.at' false = true := fun d hd => by
  rcases h.cw d hd with h1 | ⟨_, h1, _⟩ | h1
  · exact h1
  · cases h1
  · cases h1
 have hn : ∀ p, R.getD p false = true → ∀ d ∈ needsAt u ch p, satB u ch d = true ∧ R.getD d.at' false = true := fun p hp d hd => by
  rcases h.cn p hp d hd with h1 | ⟨_, h1, _⟩ | h1
  · exact h1
  · cases h1
  · cases h1
 have hr : ∀ p, Rch u ws ch p → R.getD p false = true := fun p hp => by
  induction hp with
  | want hd => exact (hw _ hd).2
  | step _ hd ih => exact (hn _ ih _ hd).2
 rw [lastB_iff]
 refine ⟨fun g => ⟨fun d hd => (hw d hd).1, fun p hp h0 => ⟨h.rr p (g p hp h0), fun d hd => (hn p (g p hp h0) d hd).1⟩⟩, fun g p hp h0 => hr p (g.all p hp h0).1⟩
theorem wOut_law {u : Uni} {ws : List Need} {ch : List Int} (hch : ch.length ≤ 6) : ∀ (f : Nat) (T : List (List Need)) (R : List Bool), WInv u ws ch T R [] → 2 * free R + T.length < f → (wOut u ch f T R = true ↔ Sol u ws ch)
 | 0, _, _, _, h => absurd h (by omega)
 | f + 1, T, R, h, hf => by
   unfold wOut
   rcases List.eq_nil_or_concat T with rfl | ⟨T0, l, rfl⟩
   · exact last_law h
   · rw [List.concat_eq_append] at *
     rw [List.getLast?_concat, List.dropLast_concat]
     simp only
     have hI : WInv u ws ch T0 R l := by
      refine ⟨h.rl, h.rr, fun k hk => h.tt k (List.mem_append_left _ hk), h.tt l (by simp), fun d hd => ?_, fun p hp d hd => ?_⟩
      · rcases h.cw d hd with h1 | ⟨k, h1, h2⟩ | h1
        · exact .inl h1
        · rcases List.mem_append.1 h1 with h1 | h1
          · exact .inr (.inl ⟨k, h1, h2⟩)
          · rw [List.mem_singleton.1 h1] at h2; exact .inr (.inr h2)
        · cases h1
      · rcases h.cn p hp d hd with h1 | ⟨k, h1, h2⟩ | h1
        · exact .inl h1
        · rcases List.mem_append.1 h1 with h1 | h1
          · exact .inr (.inl ⟨k, h1, h2⟩)
          · rw [List.mem_singleton.1 h1] at h2; exact .inr (.inr h2)
        · cases h1
     obtain ⟨hn, hs⟩ := wIn_law hch l T0 R hI
     rw [List.length_append, List.length_singleton] at hf
     cases e : wIn u ch l T0 R with
     | none => exact ⟨fun h => (by cases h), fun h => absurd h (hn e)⟩
     | some s =>
       obtain ⟨T', R'⟩ := s
       obtain ⟨h1, h2⟩ := hs T' R' e
       exact wOut_law hch f T' R' h1 (by omega)
theorem solB_iff {u : Uni} {ws : List Need} {ch : List Int} (hch : ch.length ≤ 6) : solB u ws ch = true ↔ Sol u ws ch := by
 have z : ∀ p, (List.replicate 6 false).getD p false = false := fun p => by
  rw [List.getD_eq_getElem?_getD, List.getElem?_replicate]
  split <;> rfl
 refine wOut_law hch 14 [ws] _ ⟨by simp, fun p hp => ?_, fun l hl d hd => ?_, fun d hd => (by cases hd), fun d hd => .inr (.inl ⟨ws, List.mem_singleton.2 rfl, hd⟩), fun p hp => ?_⟩ (by rw [List.length_singleton]; decide)
 · rw [z] at hp; cases hp
 · rw [List.mem_singleton.1 hl] at hd; exact .inl hd
 · rw [z] at hp; cases hp
def markL (S : List Bool) (l : List Need) : List Bool := l.foldl (fun S d => S.set d.at' true) S
def markP (u : Uni) (ch : List Int) (S : List Bool) (p : Nat) : List Bool := if S.getD p false = true then markL S (needsAt u ch p) else S
def markR (u : Uni) (ch : List Int) (S : List Bool) : List Bool := (List.range ch.length).foldl (markP u ch) S
def markN (u : Uni) (ch : List Int) : Nat → List Bool → List Bool
 | 0, S => S
 | n + 1, S => markN u ch n (markR u ch S)
def sat1 (u : Uni) (ch : List Int) (l : List Need) : Bool := l.all (satB u ch)
def endB (u : Uni) (ch : List Int) (S : List Bool) : Bool := (List.range ch.length).all fun p => !(decide (0 ≤ numAt ch p)) || (S.getD p false && sat1 u ch (needsAt u ch p))
def solR (u : Uni) (ws : List Need) (ch : List Int) : Bool := sat1 u ch ws && endB u ch (markN u ch ch.length (markL (List.replicate ch.length false) ws))
theorem markL_len : ∀ (l : List Need) (S : List Bool), (markL S l).length = S.length
 | [], _ => rfl
 | d :: l, S => by unfold markL; rw [List.foldl_cons]; exact (markL_len l _).trans (List.length_set ..)
theorem markL_get : ∀ (l : List Need) (S : List Bool) (q : Nat), (∀ d ∈ l, d.at' < S.length) → ((markL S l).getD q false = true ↔ S.getD q false = true ∨ ∃ d ∈ l, d.at' = q)
 | [], S, q, _ => by unfold markL; simp
 | d :: l, S, q, h => by
   have hd : d.at' < S.length := h d List.mem_cons_self
   have := markL_get l (S.set d.at' true) q (fun x hx => by rw [List.length_set]; exact h x (List.mem_cons_of_mem _ hx))
   unfold markL at this ⊢
   rw [List.foldl_cons, this, getD_set]
   constructor
   · rintro (h1 | ⟨x, h1, h2⟩)
     · split at h1
       · rename_i e; exact .inr ⟨d, List.mem_cons_self, e.1⟩
       · exact .inl h1
     · exact .inr ⟨x, List.mem_cons_of_mem _ h1, h2⟩
   · rintro (h1 | ⟨x, h1, h2⟩)
     · left; split
       · rfl
       · exact h1
     · rcases List.mem_cons.1 h1 with rfl | h1
       · left; rw [if_pos ⟨h2, hd⟩]
       · exact .inr ⟨x, h1, h2⟩
structure MLe (u : Uni) (ws : List Need) (ch : List Int) (S S' : List Bool) : Prop where
 len : S'.length = S.length
 le : ∀ q, S.getD q false = true → S'.getD q false = true
 rr : (∀ q, S.getD q false = true → Rch u ws ch q) → ∀ q, S'.getD q false = true → Rch u ws ch q
def NIn (u : Uni) (ch : List Int) : Prop := ∀ p, ∀ d ∈ needsAt u ch p, d.at' < ch.length
theorem MLe.refl {u : Uni} {ws : List Need} {ch : List Int} (S : List Bool) : MLe u ws ch S S := ⟨rfl, fun _ h => h, fun h => h⟩
theorem MLe.trans {u : Uni} {ws : List Need} {ch : List Int} {S T V : List Bool} (h : MLe u ws ch S T) (g : MLe u ws ch T V) : MLe u ws ch S V := ⟨g.len.trans h.len, fun q hq => g.le q (h.le q hq), fun k => g.rr (h.rr k)⟩
theorem markP_le {u : Uni} {ws : List Need} {ch : List Int} (hN : NIn u ch) {S : List Bool} (hS : S.length = ch.length) (p : Nat) : MLe u ws ch S (markP u ch S p) ∧ (S.getD p false = true → ∀ d ∈ needsAt u ch p, (markP u ch S p).getD d.at' false = true) := by
 unfold markP
 by_cases h : S.getD p false = true
 · rw [if_pos h]
   have G : ∀ q, _ := fun q => markL_get (needsAt u ch p) S q (fun d hd => hS ▸ hN p d hd)
   refine ⟨⟨markL_len _ _, fun q hq => (G q).2 (.inl hq), fun k q hq => ?_⟩, fun _ d hd => (G d.at').2 (.inr ⟨d, hd, rfl⟩)⟩
   rcases (G q).1 hq with h1 | ⟨d, h1, rfl⟩
   · exact k q h1
   · exact .step (k p h) h1
 · rw [if_neg h]
   exact ⟨.refl S, fun e => absurd e h⟩
theorem markF_le {u : Uni} {ws : List Need} {ch : List Int} (hN : NIn u ch) : ∀ (ps : List Nat) (S : List Bool), S.length = ch.length → MLe u ws ch S (ps.foldl (markP u ch) S) ∧ ∀ p ∈ ps, S.getD p false = true → ∀ d ∈ needsAt u ch p, (ps.foldl (markP u ch) S).getD d.at' false = true
 | [], S, _ => ⟨.refl S, fun p h => by cases h⟩
 | p :: ps, S, hS => by
   obtain ⟨h1, h2⟩ := markP_le (ws := ws) hN hS p
   obtain ⟨g1, g2⟩ := markF_le hN ps (markP u ch S p) (h1.len.trans hS)
   rw [List.foldl_cons]
   refine ⟨h1.trans g1, fun q hq hSq d hd => ?_⟩
   rcases List.mem_cons.1 hq with rfl | hq
   · exact g1.le _ (h2 hSq d hd)
   · exact g2 q hq (h1.le _ hSq) d hd
theorem markR_le {u : Uni} {ws : List Need} {ch : List Int} (hN : NIn u ch) {S : List Bool} (hS : S.length = ch.length) : MLe u ws ch S (markR u ch S) ∧ ∀ p, S.getD p false = true → ∀ d ∈ needsAt u ch p, (markR u ch S).getD d.at' false = true := by
 obtain ⟨h1, h2⟩ := markF_le (ws := ws) hN (List.range ch.length) S hS
 exact ⟨h1, fun p hp => h2 p (List.mem_range.2 (by have := getD_true_lt hp; omega)) hp⟩
def Shut (u : Uni) (ch : List Int) (S : List Bool) : Prop := ∀ p, S.getD p false = true → ∀ d ∈ needsAt u ch p, S.getD d.at' false = true
def cnt (S : List Bool) : Nat := S.countP fun b => b
theorem cnt_le : ∀ {S T : List Bool}, T.length = S.length → (∀ q, S.getD q false = true → T.getD q false = true) → cnt S ≤ cnt T ∧ (cnt S = cnt T → S = T)
 | [], T, hl, _ => by
   have : T = [] := by simpa using hl
   subst this; exact ⟨nle, fun _ => rfl⟩
 | b :: S, [], hl, _ => by simp at hl
 | b :: S, c :: T, hl, h => by
   have IH := cnt_le (S := S) (T := T) (by simpa using hl) (fun q hq => by simpa using h (q + 1) (by simpa using hq))
   have h0 : b = true → c = true := fun e => by simpa using h 0 (by simpa using e)
   unfold cnt at IH ⊢
   rw [List.countP_cons, List.countP_cons]
   cases b <;> cases c <;> simp at h0 ⊢
   · exact ⟨IH.1, IH.2⟩
   · have := IH.1
     exact ⟨by omega, fun e => by omega⟩
   · exact ⟨IH.1, IH.2⟩
theorem shut_markR {u : Uni} {ch : List Int} {S : List Bool} (hN : NIn u ch) (hS : S.length = ch.length) (e : cnt (markR u ch S) = cnt S) : Shut u ch S := by
 obtain ⟨h1, h2⟩ := markR_le (ws := []) hN hS
 have := (cnt_le h1.len h1.le).2 e.symm
 exact fun p hp d hd => by rw [this]; exact h2 p hp d hd
theorem shut_same {u : Uni} {ch : List Int} {S : List Bool} (hN : NIn u ch) (hS : S.length = ch.length) (hc : Shut u ch S) : markR u ch S = S := by
 unfold markR
 have : ∀ ps : List Nat, ps.foldl (markP u ch) S = S := by
  intro ps
  induction ps with
  | nil => rfl
  | cons p ps ih =>
    rw [List.foldl_cons]
    have e : markP u ch S p = S := by
     unfold markP
     by_cases h : S.getD p false = true
     · rw [if_pos h]
       have G : ∀ q, _ := fun q => markL_get (needsAt u ch p) S q (fun d hd => hS ▸ hN p d hd)
       have hle := cnt_le (S := S) (T := markL S (needsAt u ch p)) (markL_len _ _) (fun q hq => (G q).2 (.inl hq))
       have hge := cnt_le (S := markL S (needsAt u ch p)) (T := S) (markL_len _ _).symm (fun q hq => by
        rcases (G q).1 hq with h1 | ⟨d, h1, rfl⟩
        · exact h1
        · exact hc p h d h1)
       exact hge.2 (by omega)
     · rw [if_neg h]
    rw [e]; exact ih
 exact this _
theorem markN_law {u : Uni} {ws : List Need} {ch : List Int} (hN : NIn u ch) : ∀ (n : Nat) (S : List Bool), S.length = ch.length → MLe u ws ch S (markN u ch n S) ∧ (Shut u ch (markN u ch n S) ∨ cnt S + n ≤ cnt (markN u ch n S))
 | 0, S, _ => ⟨.refl S, .inr nle⟩
 | n + 1, S, hS => by
   obtain ⟨h1, _⟩ := markR_le (ws := ws) hN hS
   obtain ⟨g1, g2⟩ := markN_law (ws := ws) hN n (markR u ch S) (h1.len.trans hS)
   unfold markN
   refine ⟨h1.trans g1, ?_⟩
   rcases g2 with g2 | g2
   · exact .inl g2
   · by_cases e : cnt (markR u ch S) = cnt S
     · have hc := shut_markR hN hS e
       left
       have : ∀ m, markN u ch m S = S := fun m => by
        induction m with
        | zero => rfl
        | succ m ih => unfold markN; rw [shut_same hN hS hc]; exact ih
       rw [shut_same hN hS hc, this]; exact hc
     · have := (cnt_le h1.len h1.le).1
       exact .inr (by omega)
theorem all_marked {S : List Bool} (h : S.length ≤ cnt S) (q : Nat) (hq : q < S.length) : S.getD q false = true := by
 have h1 := List.countP_eq_length (l := S) (p := fun b => b)
 have h2 := h1.1 (Nat.le_antisymm List.countP_le_length h) S[q] (List.getElem_mem _)
 rw [List.getD_eq_getElem?_getD, List.getElem?_eq_getElem hq]; exact h2
theorem solR_iff {u : Uni} {ws : List Need} {ch : List Int} (hN : NIn u ch) (hW : ∀ d ∈ ws, d.at' < ch.length) : solR u ws ch = true ↔ Sol u ws ch := by
 obtain ⟨S0, hS0⟩ : ∃ S, markL (List.replicate ch.length false) ws = S := ⟨_, rfl⟩
 have l0 : S0.length = ch.length := by rw [← hS0, markL_len, List.length_replicate]
 have g0 : ∀ q, S0.getD q false = true ↔ ∃ d ∈ ws, d.at' = q := fun q => by
  rw [← hS0, markL_get _ _ _ (fun d hd => by rw [List.length_replicate]; exact hW d hd)]
  have : (List.replicate ch.length false).getD q false = false := by
   rw [List.getD_eq_getElem?_getD, List.getElem?_replicate]; split <;> rfl
  rw [this]; simp
 obtain ⟨h1, h2⟩ := markN_law (ws := ws) hN ch.length S0 l0
 obtain ⟨S, hS⟩ : ∃ S, markN u ch ch.length S0 = S := ⟨_, rfl⟩
 have hR : solR u ws ch = (sat1 u ch ws && endB u ch S) := by unfold solR; rw [hS0, hS]
 rw [hS] at h1 h2
 have hlen : S.length = ch.length := h1.len.trans l0
 have hsound : ∀ q, S.getD q false = true → Rch u ws ch q := h1.rr fun q hq => by
  obtain ⟨d, hd, rfl⟩ := (g0 q).1 hq
  exact .want hd
 have hshut : Shut u ch S := by
  rcases h2 with h2 | h2
  · exact h2
  · exact fun p _ d hd => all_marked (by omega) _ (hlen ▸ hN p d hd)
 have hcomp : ∀ q, Rch u ws ch q → S.getD q false = true := fun q hq => by
  induction hq with
  | want hd => exact h1.le _ ((g0 _).2 ⟨_, hd, rfl⟩)
  | step _ hd ih => exact hshut _ ih _ hd
 rw [hR, Bool.and_eq_true]
 unfold sat1 endB
 rw [List.all_eq_true, List.all_eq_true]
 refine ⟨fun ⟨a, b⟩ => ⟨a, fun p hp h0 => ?_⟩, fun h => ⟨h.sat0, fun p hp => ?_⟩⟩
 · have := b p (List.mem_range.2 hp)
   rw [decide_eq_true h0, Bool.not_true, Bool.false_or, Bool.and_eq_true, sat1, List.all_eq_true] at this
   exact ⟨hsound p this.1, this.2⟩
 · by_cases h0 : 0 ≤ numAt ch p
   · obtain ⟨k1, k2⟩ := h.all p (List.mem_range.1 hp) h0
     rw [hcomp p k1, sat1, List.all_eq_true.2 k2]; simp
   · rw [decide_eq_false h0]; rfl
theorem solR_solB {u : Uni} {ws : List Need} {ch : List Int} (hch : ch.length ≤ 6) (hN : NIn u ch) (hW : ∀ d ∈ ws, d.at' < ch.length) : solR u ws ch = solB u ws ch := by
 rw [Bool.eq_iff_iff, solR_iff hN hW, solB_iff hch]
end Pl
end
section
open Go.RowKit
set_option maxRecDepth 100000 in
theorem Tryz.tDem : ElemT Tryz.prog 115 164 5 16 := ⟨Tryz.underlying115, ⟨_, _, rfl, rfl, rfl, rfl, rfl⟩, by decide, by decide⟩
def Pd (u : Pl.Uni) (_ : World) (_ : Nat → Prop) (d : Pl.Need) (cs : List Value) : Prop := cs = [.int .i64 d.pk, .bool (Pl.hasAt u d 0), .bool (Pl.hasAt u d 1), .bool (Pl.hasAt u d 2), .bool (Pl.hasAt u d 3)]
theorem cloD (u : Pl.Uni) : Clo 5 (Pd u) where
 len h := by rw [h]; rfl
 one h := by
  rw [h]
  exact List.all_eq_true.1 rfl
 mono h _ := h
 grown h _ _ := h
namespace Pl
def hasTo (u : Uni) (d : Need) (i j : Nat) : Bool := decide (j < i) && hasAt u d j
theorem hasTo_z (u : Uni) (d : Need) (j : Nat) : hasTo u d 0 j = false := by unfold hasTo; rw [decide_eq_false (by omega)]; rfl
theorem hasTo_end {u : Uni} {d : Need} {n : Nat} (h : ∀ j, n ≤ j → hasAt u d j = false) (j : Nat) : hasTo u d n j = hasAt u d j := by
 unfold hasTo
 by_cases c : j < n
 · rw [decide_eq_true c]; rfl
 · rw [decide_eq_false c, h j (by omega)]; rfl
theorem hasAt_in {u : Uni} {d : Need} {p : Nat} (hp : d.pk = p) (h : p < u.length) {k : Nat} (hk : k < u[p].length) : hasAt u d k = hasB d.rg u[p][k].v := by
 have e : d.at' = p := by unfold Need.at'; omega
 unfold hasAt
 rw [e, List.getElem?_eq_getElem h]
 simp only [List.getElem?_eq_getElem hk]
theorem hasAt_out {u : Uni} {d : Need} {p : Nat} (hp : d.pk = p) (h : p < u.length) (k : Nat) (hk : u[p].length ≤ k) : hasAt u d k = false := by
 have e : d.at' = p := by unfold Need.at'; omega
 unfold hasAt
 rw [e, List.getElem?_eq_getElem h]
 simp only [List.getElem?_eq_none hk]
end Pl
def dmC (u : Pl.Uni) (d : Pl.Need) (i : Nat) : List Value := [.int .i64 d.pk, .bool (Pl.hasTo u d i 0), .bool (Pl.hasTo u d i 1), .bool (Pl.hasTo u d i 2), .bool (Pl.hasTo u d i 3)]
theorem dmC_set {u : Pl.Uni} {d : Pl.Need} {k : Nat} (hk : k < 4) : (dmC u d k).set (1 + k) (.bool (Pl.hasAt u d k)) = dmC u d (k + 1) := by
 have h : k = 0 ∨ k = 1 ∨ k = 2 ∨ k = 3 := by omega
 rcases h with rfl | rfl | rfl | rfl <;> simp [dmC, Pl.hasTo]
theorem dmC_at {u : Pl.Uni} {d : Pl.Need} {k i : Nat} (hk : k < 4) : ∃ b, (dmC u d i)[1 + k]? = some (.bool b) := by
 have h : k = 0 ∨ k = 1 ∨ k = 2 ∨ k = 3 := by omega
 rcases h with rfl | rfl | rfl | rfl <;> exact ⟨_, rfl⟩
theorem dmC_z (u : Pl.Uni) (d : Pl.Need) : dmC u d 0 = [.int .i64 d.pk, .bool false, .bool false, .bool false, .bool false] := by unfold dmC; rw [Pl.hasTo_z, Pl.hasTo_z, Pl.hasTo_z, Pl.hasTo_z]
theorem dmC_end {u : Pl.Uni} {d : Pl.Need} {n : Nat} (h : ∀ j, n ≤ j → Pl.hasAt u d j = false) : dmC u d n = [.int .i64 d.pk, .bool (Pl.hasAt u d 0), .bool (Pl.hasAt u d 1), .bool (Pl.hasAt u d 2), .bool (Pl.hasAt u d 3)] := by
 unfold dmC
 rw [Pl.hasTo_end h, Pl.hasTo_end h, Pl.hasTo_end h, Pl.hasTo_end h]
def DemInv (wr : World) (u : Pl.Uni) (x : Pl.Need) (pn : Nat) (a1 : Option Addr) (c1 m : Nat) (wv : World) : Prop :=
 Bk wv wr.heap.size [.int .i64 pn, .slice a1 x.rg.length c1] ∧ Bk wv (wr.heap.size + 1) (dmC u x m) ∧ Below wr.heap.size wr wv ∧ wr.heap.size + 2 ≤ wv.heap.size
set_option maxRecDepth 100000 in
set_option maxHeartbeats 8000000 in
theorem demands_any (u : Pl.Uni) (l : List Pl.Need) (a b : Option Addr) (c d : Nat) (w : World) (h1 : UIn w u a c) (h2 : NsIn w l b d) (ok : Pl.UniOk u) (okl : Pl.NeedsOk u.length l) :
 Calls Tryz.prog 126 #[.agg #[.slice a u.length c], .slice b l.length d] w fun e w' => ∃ o k, e = .returned (.slice o l.length k) ∧ LQ 5 (Pd u) w' (fun g => w.heap.size ≤ g) l o k ∧ Below w.heap.size w w' := by
 have H := Hd h1
 have K := Hd h2
 have OK := Hd ok
 have OKL := Hd okl
 have hm1 := h1.len
 have hm2 := h2.len
 have hn4 := okl.len
 clear h1 h2 ok okl
 go_enter Tryz.func126, Tryz.ntmps126
 go_wp2_with fail
 go_loopw [5, 13] (fun v i wr => ∃ k : Nat, k ≤ l.length ∧ i = .int .i64 k ∧ (∃ o c', v = .slice o k c' ∧ GOwn 164 5 (Pd u) wr (w.heap.size + 1) (fun _ => False) (l.take k) (.slice o k c') k) ∧ Below (w.heap.size + 1) (w.alloc (.cells #[.slice a u.length c] 56)) wr) (fun _ i _ => l.length - (intOf i).toNat)
 case atStart => exact ⟨0, Nat.zero_le _, rfl, ⟨none, 0, rfl, GOwn.nil _ _ _⟩, Below.refl _ _⟩
 case round =>
  obtain ⟨k, hk, rfl, ⟨o, c', rfl, OW⟩, hb⟩ := hrel
  obtain ⟨v0, rfl⟩ : ∃ W, W = wr := ⟨_, rfl⟩
  have B1 : Below w.heap.size w v0 := bcall (by go_grown) hb (by simp)
  have s1 := B1.size
  have HB := hb
  have q0 : w.heap.size + 1 ≤ v0.heap.size := qle hb
  have X : Bk v0 w.heap.size [.slice a u.length c] := (Bk.new (cs := [.slice a u.length c]) _ _ rfl).below hb (by simp)
  clear hb
  by_cases hlt2 : k < l.length
  · have ty : decide ((k : Int) < (l.length : Int)) = true := decT (by omega)
    have tz : decide (k < l.length) = true := decT (by omega)
    obtain ⟨bb, off, rfl, hltb, hat⟩ := (K.out.bl B1).at (by omega)
    obtain ⟨a1, c1, e0, e1, G⟩ := hat k hlt2
    replace G := Hd G
    have DP := OKL.out.pk _ (List.getElem_mem hlt2)
    have DR := Hd (Pl.rng_okx (OKL.out.rg _ (List.getElem_mem hlt2)))
    have TK := Hd (List.take_succ_eq_append_getElem hlt2)
    clear hat
    generalize l[k] = x at *
    obtain ⟨pn, hpn⟩ : ∃ pn : Nat, x.pk = pn := ⟨x.pk.toNat, by omega⟩
    have pL : pn < u.length := by omega
    have pL2 : decide ((pn : Int) < (u.length : Int)) = true := decT (by omega)
    obtain ⟨bu, offu, rfl, hltu, hatu⟩ := (H.out.bl B1).at (by omega)
    obtain ⟨a2, c2, j0, RS⟩ := hatu pn pL
    replace RS := Hd RS
    have RO := Hd (OK.out.rels _ (List.getElem_mem pL))
    have HAI := Hd (fun (k : Nat) (hk : k < u[pn].length) => Pl.hasAt_in (d := x) hpn pL hk)
    have HAO := Hd (Pl.hasAt_out (d := x) hpn pL)
    have hl4 := RO.out.len
    have HPN := Hd hpn
    rw [hpn] at e0
    clear hatu DP hpn
    generalize u[pn] = pl at *
    have ⟨Xc, Xf, Xl⟩ := X
    go_wp2_with fail
    have hW0 : Below v0.heap.size v0 ((v0.alloc (.cells #[.int .i64 (pn : Int), .slice a1 x.rg.length c1] 84)).alloc (.cells #[.int .i64 (pn : Int), .bool false, .bool false, .bool false, .bool false] 164)) := by go_grown
    have B2 : Below w.heap.size w ((v0.alloc (.cells #[.int .i64 (pn : Int), .slice a1 x.rg.length c1] 84)).alloc (.cells #[.int .i64 (pn : Int), .bool false, .bool false, .bool false, .bool false] 164)) := by go_grown
    have q2 : v0.heap.size + 2 ≤ ((v0.alloc (.cells #[.int .i64 (pn : Int), .slice a1 x.rg.length c1] 84)).alloc (.cells #[.int .i64 (pn : Int), .bool false, .bool false, .bool false, .bool false] 164)).heap.size := by simp only [World.size_alloc]; omega
    replace X := ((X.alloc (.cells #[.int .i64 (pn : Int), .slice a1 x.rg.length c1] 84)).alloc (.cells #[.int .i64 (pn : Int), .bool false, .bool false, .bool false, .bool false] 164))
    have Y := ((Bk.new (r := v0.heap.size) (cs := [.int .i64 (pn : Int), .slice a1 x.rg.length c1]) v0 84 (by simp)).alloc (.cells #[.int .i64 (pn : Int), .bool false, .bool false, .bool false, .bool false] 164))
    have Z := (Bk.new (r := v0.heap.size + 1) (cs := [.int .i64 (pn : Int), .bool false, .bool false, .bool false, .bool false]) (v0.alloc (.cells #[.int .i64 (pn : Int), .slice a1 x.rg.length c1] 84)) 164 (by simp))
    clear Xc Xf Xl
    generalize ((v0.alloc (.cells #[.int .i64 (pn : Int), .slice a1 x.rg.length c1] 84)).alloc (.cells #[.int .i64 (pn : Int), .bool false, .bool false, .bool false, .bool false] 164)) = w2 at *
    have s2 := B2.size
    have ⟨Xc, Xf, Xl⟩ := X
    have ⟨Yc, Yf, Yl⟩ := Y
    have ⟨Zc, Zf, Zl⟩ := Z
    clear Xc Xf Xl Yc Yf Yl Zc Zf Zl
    have Z0 : Bk w2 (v0.heap.size + 1) (dmC u x 0) := by rw [dmC_z, HPN.out]; exact Z
    have q2' : v0.heap.size + 2 ≤ w2.heap.size := by omega
    go_loopw [27] (fun j wv => ∃ m : Nat, m ≤ pl.length ∧ j = .int .i64 m ∧ DemInv v0 u x pn a1 c1 m wv) (fun j _ => pl.length - (intOf j).toNat)
    case atStart => exact ⟨0, Nat.zero_le _, rfl, Y, Z0, hW0, q2'⟩
    case round =>
     obtain ⟨m, hm, rfl, hinv⟩ := hrel
     clear Y Z Z0 hW0 q2 q2' B2 s2 X
     obtain ⟨Y, Z, BV, qv⟩ := hinv
     have B2 : Below w.heap.size w wr := bcall B1 BV (by omega)
     have s2 := B2.size
     by_cases hlt3 : m < pl.length
     · have t6 : decide ((m : Int) < (pl.length : Int)) = true := decT (by omega)
       have t7 : decide (m < pl.length) = true := decT (by omega)
       have m4 : m < 4 := by omega
       have m5 : (m : Int) < 4 := by omega
       obtain ⟨br, offr, rfl, hltr, hatr⟩ := RS.out.at (by omega)
       obtain ⟨a3, c3, a4, c4, I⟩ := hatr m hlt3
       obtain ⟨f0, f1, f2, f3, f4, V, -⟩ := I.below BV hltr nle
       replace V := Hd V
       have OV := Hd (RO.out.v _ (List.getElem_mem hlt3))
       have HAM := Hd (HAI.out m hlt3)
       clear hatr I
       generalize pl[m] = rl at *
       obtain ⟨bz, hbz⟩ := dmC_at (u := u) (d := x) (i := m) m4
       have ⟨Yc, Yf, Yl⟩ := Y
       go_wp2_with fail
       refine (rngHas_any x.rg rl.v a1 a3 c1 c3 _ (G.out.bl (by go_grown)) (V.out.bl (by go_grown)) DR.out OV.out).mono ?_
       rintro e w3 ⟨rfl, hb⟩
       rw [← HAM.out]
       have hW : Below v0.heap.size v0 w3 := bcl hb
       have B3 := bcm w hb
       have q3 : wr.heap.size + 1 ≤ w3.heap.size := qle hb
       replace V := Hd ((V.out.al _).bl hb)
       replace Y := ((Y.alloc _)).bw hb
       replace Z := ((Z.alloc _)).bw hb
       have V0 := ((bkn wr.heap.size [.int .i64 rl.v.maj, .int .i64 rl.v.min, .int .i64 rl.v.pat, .slice a3 rl.v.pre.length c3, .slice a4 rl.ns.length c4] 75)).bw hb
       clear hb
       have s3 := B3.size
       clear Yc Yf Yl
       have ⟨Yc, Yf, Yl⟩ := Y
       have ⟨Zc, Zf, Zl⟩ := Z
       have ⟨V0c, V0f, V0l⟩ := V0
       have zc := Z.c (1 + m) hbz
       have zf := Z.f (1 + m)
       clear f0 f1 f2 f3 f4 Zc
       go_wp2_with fail
       go_roundw
       case rel => exact ⟨m + 1, hlt3, by go_num, Y.far (a := ⟨v0.heap.size + 1, 1 + m, none⟩) (by dsimp only; omega) _, by rw [← dmC_set m4]; exact Z.set (k := 1 + m) (by simp [dmC]; omega) _, by go_grown, by simp; omega⟩
       case measure => simp [intOf]; omega
     · have t6 : decide ((m : Int) < (pl.length : Int)) = false := decF (by omega)
       have t7 : decide (m < pl.length) = false := decF (by omega)
       have em : m = pl.length := by omega
       subst em
       rw [dmC_end HAO.out, HPN.out] at Z
       replace OW := OW.below (cloD u) BV nle
       have PD : Pd u wr (fun b => False ∧ some b ≠ (Value.slice o k c').ownBlock) x [.int .i64 (pn : Int), .bool (Pl.hasAt u x 0), .bool (Pl.hasAt u x 1), .bool (Pl.hasAt u x 2), .bool (Pl.hasAt u x 3)] := by unfold Pd; rw [HPN.out]
       have ⟨Zc, Zf, Zl⟩ := Z
       have HBV : Below (w.heap.size + 1) _ wr := bcall HB BV (by omega)
       go_wp2_with (at_builtin; go_loud (refine ap1g (cloD u) Tryz.tDem (by rfl) (by rfl) (by rfl) OW (c := 1) (E := [.int .i64 (pn : Int), .bool (Pl.hasAt u x 0), .bool (Pl.hasAt u x 1), .bool (Pl.hasAt u x 2), .bool (Pl.hasAt u x 3)]) (by rfl) PD (by omega) (by omega) ?_); intro v7 w7 NEW hg7 hb7 hs7; have HB7 : Below (w.heap.size + 1) _ w7 := bcall HBV hb7 (by omega); obtain ⟨o7, c7, rfl⟩ := NEW.slice; clear hg7 hb7 OW PD Zc Zf Zl)
       rw [← TK.out] at NEW
       go_roundw
       case rel => exact ⟨k + 1, hlt2, by go_num, ⟨o7, c7, rfl, NEW⟩, HB7⟩
       case measure => simp [intOf]; omega
  · have t5 : decide ((k : Int) < (l.length : Int)) = false := decF (by omega)
    have t6 : decide (k < l.length) = false := decF (by omega)
    have ek : k = l.length := by omega
    subst ek
    rw [List.take_length] at OW
    go_wp2_with fail
    go_ret
    exact ⟨o, c', rfl, OW.lq (cloD u) (by decide) (fun _ h => h.elim) (fun b h _ => by omega), by go_grown⟩
end
end Go.Proofs.YtolfgcoalihmgaaGreatDoor
