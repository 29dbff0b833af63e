/- Texts joined. -/
import Derived.Test.YtolfgcoalihmgaaGreatDoorZMQg
import Derived.Deep.DeepCutAuto
namespace Go.Proofs.YtolfgcoalihmgaaGreatDoor
section
namespace Pl
theorem wOut_step (u : Uni) (ch : List Int) (f : Nat) (T : List (List Need)) (l : List Need) (R : List Bool) : wOut u ch (f + 1) (T ++ [l]) R = (match wIn u ch l T R with | none => false | some s => wOut u ch f s.1 s.2) := by
 rw [wOut, List.getLast?_concat, List.dropLast_concat]; rfl
theorem wIn_bad {u : Uni} {ch : List Int} {d : Need} {l : List Need} {T : List (List Need)} {R : List Bool} (h : satB u ch d = false) : wIn u ch (d :: l) T R = none := by
 unfold wIn; rw [if_neg (by rw [h]; decide)]
theorem wIn_old {u : Uni} {ch : List Int} {d : Need} {l : List Need} {T : List (List Need)} {R : List Bool} (h : satB u ch d = true) (hr : R.getD d.at' false = true) : wIn u ch (d :: l) T R = wIn u ch l T R := by
 conv => lhs; unfold wIn
 rw [if_pos h, if_pos hr]
theorem wIn_new {u : Uni} {ch : List Int} {d : Need} {l : List Need} {T : List (List Need)} {R : List Bool} (h : satB u ch d = true) (hr : R.getD d.at' false = false) : wIn u ch (d :: l) T R = wIn u ch l (T ++ [needsAt u ch d.at']) (R.set d.at' true) := by
 conv => lhs; unfold wIn
 rw [if_pos h, if_neg (by rw [hr]; decide)]
theorem numAt_get {ch : List Int} {p : Nat} (h : p < ch.length) : numAt ch p = ch[p] := by
 unfold numAt
 rw [List.getD_eq_getElem?_getD, List.getElem?_eq_getElem h]; rfl
theorem satB_neg {u : Uni} {ch : List Int} {d : Need} {p : Nat} (hp : d.pk = p) (h : p < ch.length) (hx : ch[p] < 0) : satB u ch d = false := by
 have e : d.at' = p := by unfold Need.at'; omega
 unfold satB
 rw [e, numAt_get h, decide_eq_false (by omega)]; rfl
theorem satB_pos {u : Uni} {ch : List Int} {d : Need} {p k : Nat} (hp : d.pk = p) (h : p < ch.length) (hx : ch[p] = k) : satB u ch d = hasAt u d k := by
 have e : d.at' = p := by unfold Need.at'; omega
 unfold satB
 rw [e, numAt_get h, hx, decide_eq_true (by omega), Bool.true_and]; rfl
theorem needsAt_get {u : Uni} {ch : List Int} {p k : Nat} (h : p < ch.length) (hx : ch[p] = k) (hp : p < u.length) (hk : k < u[p].length) : needsAt u ch p = u[p][k].ns := by
 unfold needsAt needsOf
 rw [numAt_get h, hx, if_pos (by omega), List.getElem?_eq_getElem hp]
 simp only [Int.toNat_natCast, List.getElem?_eq_getElem hk]
theorem free_le {R : List Bool} {p : Nat} (h : p < R.length) (e : R.getD p false = false) (T : List (List Need)) (l : List Need) : 2 * free (R.set p true) + (T ++ [l]).length + 1 = 2 * free R + T.length := by
 have := free_set h e
 rw [List.length_append, List.length_singleton]; omega
def Runs (u : Uni) (ch : List Int) (T : List (List Need)) (R : List Bool) (res : Bool) : Prop := ∃ f, f ≤ 14 ∧ wOut u ch f T R = res ∧ 2 * free R + T.length < f
theorem Runs.start (u : Uni) (ws : List Need) (ch : List Int) : Runs u ch [ws] (List.replicate 6 false) (solB u ws ch) := ⟨14, nle, rfl, by rw [List.length_singleton]; decide⟩
theorem Runs.done {u : Uni} {ch : List Int} {R : List Bool} {res : Bool} (h : Runs u ch [] R res) : lastB ch R = res := by
 obtain ⟨f, _, h1, h2⟩ := h
 cases f with
 | zero => omega
 | succ f => exact h1
theorem Runs.len {u : Uni} {ch : List Int} {T : List (List Need)} {R : List Bool} {res : Bool} (h : Runs u ch T R res) : 2 * free R + T.length < 14 := by
 obtain ⟨f, h0, _, h2⟩ := h
 omega
def RunsIn (u : Uni) (ch : List Int) (M : Nat) (l : List Need) (T : List (List Need)) (R : List Bool) (res : Bool) : Prop := ∃ f, f ≤ 14 ∧ M < f ∧ 2 * free R + T.length ≤ M ∧ (match wIn u ch l T R with | none => false | some s => wOut u ch f s.1 s.2) = res
theorem Runs.pop {u : Uni} {ch : List Int} {T : List (List Need)} {l : List Need} {R : List Bool} {res : Bool} (h : Runs u ch (T ++ [l]) R res) : RunsIn u ch (2 * free R + T.length) l T R res := by
 obtain ⟨f, h0, h1, h2⟩ := h
 rw [List.length_append, List.length_singleton] at h2
 cases f with
 | zero => omega
 | succ f => rw [wOut_step] at h1; exact ⟨f, by omega, by omega, nle, h1⟩
theorem RunsIn.end_ {u : Uni} {ch : List Int} {M : Nat} {T : List (List Need)} {R : List Bool} {res : Bool} (h : RunsIn u ch M [] T R res) : Runs u ch T R res ∧ 2 * free R + T.length ≤ M := by
 obtain ⟨f, h0, h1, h2, h3⟩ := h
 exact ⟨⟨f, h0, h3, by omega⟩, h2⟩
theorem RunsIn.len {u : Uni} {ch : List Int} {M : Nat} {l : List Need} {T : List (List Need)} {R : List Bool} {res : Bool} (h : RunsIn u ch M l T R res) : T.length < 14 := by
 obtain ⟨f, h0, h1, h2, _⟩ := h
 omega
theorem RunsIn.bad {u : Uni} {ch : List Int} {M : Nat} {d : Need} {l : List Need} {T : List (List Need)} {R : List Bool} {res : Bool} (h : RunsIn u ch M (d :: l) T R res) (hs : satB u ch d = false) : res = false := by
 obtain ⟨f, _, _, _, h3⟩ := h
 rw [wIn_bad hs] at h3; exact h3.symm
theorem RunsIn.old {u : Uni} {ch : List Int} {M : Nat} {d : Need} {l : List Need} {T : List (List Need)} {R : List Bool} {res : Bool} (h : RunsIn u ch M (d :: l) T R res) (hs : satB u ch d = true) (hr : R.getD d.at' false = true) : RunsIn u ch M l T R res := by
 obtain ⟨f, h0, h1, h2, h3⟩ := h
 rw [wIn_old hs hr] at h3; exact ⟨f, h0, h1, h2, h3⟩
theorem RunsIn.new {u : Uni} {ch : List Int} {M : Nat} {d : Need} {l : List Need} {T : List (List Need)} {R : List Bool} {res : Bool} (h : RunsIn u ch M (d :: l) T R res) (hs : satB u ch d = true) (hr : R.getD d.at' false = false) (hR : d.at' < R.length) : RunsIn u ch M l (T ++ [needsAt u ch d.at']) (R.set d.at' true) res := by
 obtain ⟨f, h0, h1, h2, h3⟩ := h
 rw [wIn_new hs hr] at h3
 exact ⟨f, h0, h1, by have := free_le hR hr T (needsAt u ch d.at'); omega, h3⟩
theorem lastB_true {ch : List Int} {R : List Bool} (h : ∀ k (hk : k < ch.length), 0 ≤ ch[k] → R.getD k false = true) : lastB ch R = true := by
 rw [lastB_iff]
 intro p hp h0
 rw [numAt_get hp] at h0
 exact h p hp h0
theorem lastB_false {ch : List Int} {R : List Bool} {k : Nat} (hk : k < ch.length) (h0 : 0 ≤ ch[k]) (e : R.getD k false = false) : lastB ch R = false := by
 rw [← Bool.not_eq_true, lastB_iff]
 intro h
 rw [h k hk (by rw [numAt_get hk]; exact h0)] at e; cases e
end Pl
end
section
open Go.RowKit
theorem GOwn.pop {α : Type} {e : TypeId} {P : World → (Nat → Prop) → α → List Value → Prop} (C : Clo 1 P) {w : World} {B : Nat} {R : Nat → Prop} {xs : List α} {x : α} {g c n : Nat} (h : GOwn e 1 P w B R (xs ++ [x]) (.slice (some ⟨g, 0, none⟩) n c) n) :
 GOwn e 1 P w B R xs (.slice (some ⟨g, 0, none⟩) (n - 1) c) (n - 1) ∧ n ≤ c ∧ ∃ es, P w (fun b => R b ∧ b ≠ g) x es ∧ ∀ u, es[0]? = some u → w.cell? ⟨g, n - 1, none⟩ = some u := by
 obtain ⟨cs, h1, h2⟩ := h.mem
 have hl := h.len
 have hn : xs.length = n - 1 := by simp at hl; omega
 have hn1 : xs.length + 1 = n := by simpa using hl
 refine ⟨⟨⟨cs.take (n - 1), ?_, ?_⟩, hn⟩, ?_, ?_⟩
 · refine ⟨?_, ?_⟩
   · rw [List.length_take, h1.1]; omega
   · rcases h1.2 with ⟨k, _⟩ | ⟨g', cap, cur, k, hbg, hgg, h5, h6, h7, h8⟩
     · cases k
     · refine .inr ⟨g', cap, cur, ?_, hbg, hgg, by omega, h6, h7, ?_⟩
       · injection k with k1 _ k3
         rw [k1, k3]
       · rw [← h8, List.take_take]; congr 1; omega
 · refine ⟨by rw [List.length_take, h2.len, List.length_append]; simp; omega, fun i hi => ?_⟩
   have := h2.each i (by simp; omega)
   rw [List.getElem_append_left hi] at this
   rw [List.drop_take, List.take_take, Nat.min_eq_left (by omega)]
   exact this
 · rcases h1.2 with ⟨k, _⟩ | ⟨g', cap, cur, k, hbg, hgg, h5, h6, h7, h8⟩
   · cases k
   · injection k with _ _ k3
     omega
 · have := h2.each (n - 1) (by simp; omega)
   rw [List.getElem_append_right (by omega)] at this
   simp only [hn, Nat.sub_self, List.getElem_singleton, Nat.mul_one] at this
   refine ⟨_, C.mono this (fun b hb _ => ⟨hb.1, fun e => hb.2 (by rw [e]; rfl)⟩), fun u hu => ?_⟩
   rw [List.getElem?_take, if_pos (by decide), List.getElem?_drop] at hu
   have := h1.cells (g := g) rfl (n - 1 + 0) u hu
   rwa [addr_add, Nat.zero_add, Nat.add_zero] at this
theorem ProbIn.need {w : World} {B : Nat} {u : Pl.Uni} {ws : List Pl.Need} {o1 o2 : Option Addr} {k1 k2 : Nat} (h : ProbIn w B u ws o1 k1 o2 k2) {p k : Nat} (hp : p < u.length) (hk : k < u[p].length) :
 ∃ b2 f2 b3 f3 c3 o4 c4, o2 = some ⟨b2, f2, none⟩ ∧ b2 < w.heap.size ∧ b3 < w.heap.size ∧ w.cell? ⟨b2, f2 + p, none⟩ = some (.slice (some ⟨b3, f3, none⟩) u[p].length c3) ∧ w.cell? ⟨b3, f3 + k, none⟩ = some (.slice o4 u[p][k].ns.length c4) ∧ LQ 5 (Pd u) w (fun g => g < w.heap.size) u[p][k].ns o4 c4 := by
 obtain ⟨b2, f2, e2, hl2, hat⟩ := h.ns.pos (by decide) (by rw [Pl.nsAll_len]; omega)
 obtain ⟨es, ⟨o3, c3, rfl, L3⟩, hc⟩ := hat p (by rw [Pl.nsAll_len]; exact hp)
 have e3 : (Pl.nsAll u)[p]'(by rw [Pl.nsAll_len]; exact hp) = Pl.nsOf u[p] := by simp [Pl.nsAll]
 rw [e3] at L3 hc
 obtain ⟨b3, f3, rfl, hl3, hat3⟩ := L3.pos (by decide) (by rw [Pl.nsOf_len]; omega)
 obtain ⟨es, ⟨o4, c4, rfl, L4⟩, hc4⟩ := hat3 k (by rw [Pl.nsOf_len]; exact hk)
 have e4 : (Pl.nsOf u[p])[k]'(by rw [Pl.nsOf_len]; exact hk) = u[p][k].ns := by simp [Pl.nsOf]
 rw [e4] at L4 hc4
 have q1 := hc 0 _ rfl
 have q2 := hc4 0 _ rfl
 rw [Nat.mul_one, Nat.add_zero, Pl.nsOf_len] at q1
 rw [Nat.mul_one, Nat.add_zero] at q2
 exact ⟨b2, f2, b3, f3, c3, o4, c4, e2, hl2, hl3, q1, q2, L4.mono (cloD u) (by decide) fun b _ hb => hb⟩
theorem LQ.dem {w : World} {Q : Nat → Prop} {u : Pl.Uni} {l : List Pl.Need} {a : Option Addr} {c : Nat} (h : LQ 5 (Pd u) w Q l a c) (h0 : 0 < l.length) : ∃ b off, a = some ⟨b, off, none⟩ ∧ b < w.heap.size ∧ ∀ k (hk : k < l.length), w.cell? ⟨b, off + k * 5, none⟩ = some (.int .i64 l[k].pk) ∧ w.cell? ⟨b, off + k * 5 + 1, none⟩ = some (.bool (Pl.hasAt u l[k] 0)) ∧ w.cell? ⟨b, off + k * 5 + 2, none⟩ = some (.bool (Pl.hasAt u l[k] 1)) ∧ w.cell? ⟨b, off + k * 5 + 3, none⟩ = some (.bool (Pl.hasAt u l[k] 2)) ∧ w.cell? ⟨b, off + k * 5 + 4, none⟩ = some (.bool (Pl.hasAt u l[k] 3)) := by
 obtain ⟨b, off, e, hlt, hat⟩ := h.pos (by decide) h0
 refine ⟨b, off, e, hlt, fun k hk => ?_⟩
 obtain ⟨es, he, hc⟩ := hat k hk
 unfold Pd at he
 subst he
 exact ⟨hc 0 _ rfl, hc 1 _ rfl, hc 2 _ rfl, hc 3 _ rfl, hc 4 _ rfl⟩
def bools (R : List Bool) : List Value := R.map Value.bool
theorem bools_get {R : List Bool} {p : Nat} (h : p < R.length) : (bools R)[p]? = some (.bool (R.getD p false)) := by
 unfold bools
 rw [List.getElem?_map, List.getElem?_eq_getElem h, List.getD_eq_getElem?_getD, List.getElem?_eq_getElem h]; rfl
theorem bools_set (R : List Bool) (p : Nat) (b : Bool) : (bools R).set p (.bool b) = bools (R.set p b) := by unfold bools; rw [List.map_set]
theorem bools_len (R : List Bool) : (bools R).length = R.length := List.length_map ..
theorem GOwn.ptr {α : Type} {e : TypeId} {sz : Nat} {P : World → (Nat → Prop) → α → List Value → Prop} {w : World} {B : Nat} {R : Nat → Prop} {xs : List α} {o : Option Addr} {n c : Nat} (h : GOwn e sz P w B R xs (.slice o n c) n) (h0 : 0 < n) : ∃ g, o = some ⟨g, 0, none⟩ ∧ B ≤ g ∧ g < w.heap.size := by
 obtain ⟨cs, h1, _⟩ := h.mem
 rcases h1.2 with ⟨_, k⟩ | ⟨g, cap, cur, k, hbg, hgg, _⟩
 · omega
 · injection k with k1 _ _
   exact ⟨g, k1, hbg, (Array.getElem?_eq_some_iff.1 hgg).1⟩
theorem dm_get {u : Pl.Uni} {d : Pl.Need} {p : Int} {k : Nat} (hk : k < 4) : [Value.int .i64 p, .bool (Pl.hasAt u d 0), .bool (Pl.hasAt u d 1), .bool (Pl.hasAt u d 2), .bool (Pl.hasAt u d 3)][1 + k]? = some (.bool (Pl.hasAt u d k)) := by
 have h : k = 0 ∨ k = 1 ∨ k = 2 ∨ k = 3 := by omega
 rcases h with rfl | rfl | rfl | rfl <;> rfl
open Classical in
noncomputable def frW (w : World) (r : Nat) : Nat := (List.range 6).countP fun j => decide (w.cell? ⟨r, j, none⟩ = some (.bool false))
open Classical in
theorem frW_eq {w : World} {r : Nat} {R : List Bool} (h : Bk w r (bools R)) (hR : R.length = 6) : frW w r = Pl.free R := by
 have E : frW w r = (List.range 6).countP fun j => decide ((bools R)[j]? = some (.bool false)) := by
  unfold frW
  congr 1
  funext j
  rw [h.a j]
 rw [E]
 unfold Pl.free
 match R, hR with
 | [x0, x1, x2, x3, x4, x5], _ =>
   have e6 : List.range 6 = [0, 1, 2, 3, 4, 5] := rfl
   rw [e6]
   simp only [bools, List.map_cons, List.map_nil, List.countP_cons, List.countP_nil, List.getElem?_cons_zero, List.getElem?_cons_succ]
   cases x0 <;> cases x1 <;> cases x2 <;> cases x3 <;> cases x4 <;> cases x5 <;> simp
def slN : Value → Nat
 | .slice _ n _ => n
 | _ => 0
def SInv (w : World) (u : Pl.Uni) (X : List Value) (T : List (List Pl.Need)) (R : List Bool) (v : Value) (wr : World) : Prop :=
 ∃ o c', v = .slice o T.length c' ∧ GOwn 115 1 (P1 u) wr (w.heap.size + 2) (fun b => b < w.heap.size) T (.slice o T.length c') T.length ∧ Bk wr (w.heap.size + 1) (bools R) ∧ Bk wr w.heap.size X ∧ R.length = 6 ∧ (∀ l ∈ T, Pl.NeedsOk u.length l) ∧ Below w.heap.size w wr ∧ w.heap.size + 2 ≤ wr.heap.size
set_option maxRecDepth 100000 in
set_option maxHeartbeats 16000000 in
theorem solved_any (u : Pl.Uni) (ws : List Pl.Need) (ch : List Int) (o1 o2 b : Option Addr) (k1 k2 d B : Nat) (w : World) (hP : ProbIn w B u ws o1 k1 o2 k2) (hC : Sl w b ch.length d 1 (intVals ch)) (ok : Pl.UniOk u) (okw : Pl.NeedsOk u.length ws) (okc : Pl.ChOk u ch) :
 Calls Tryz.prog 91 #[.agg #[.slice o1 ws.length k1, .slice o2 u.length k2], .slice b ch.length d] w fun e w' => e = .returned (.bool (Pl.solB u ws ch)) ∧ Below w.heap.size w w' := by
 have HP := Hd hP
 have HC := Hd hC
 have OK := Hd ok
 have OW := Hd okw
 have OC := Hd okc
 have hm := hC.len
 have hcu := okc.len
 have hu6 := ok.len
 obtain ⟨res, hres⟩ : ∃ res, Pl.solB u ws ch = res := ⟨_, rfl⟩
 have S0 := Pl.Runs.start u ws ch
 rw [hres] at S0 ⊢
 replace S0 := Hd S0
 have WS := Hd (hP.ws.mono (cloD u) (by decide) (R := fun g => g < w.heap.size) fun b _ h => h)
 clear hP hC ok okw okc hres
 go_enter Tryz.func91, Tryz.ntmps91
 go_wp2_with fail
 go_loopw [6] (fun v wv => ∃ T R, SInv w u [.slice o1 ws.length k1, .slice o2 u.length k2] T R v wv ∧ Hid (Pl.Runs u ch T R res)) (fun v wv => 2 * frW wv (w.heap.size + 1) + slN v)
 case atStart =>
  have PE : P1 u ((w.alloc (.cells #[.slice o1 ws.length k1, .slice o2 u.length k2] 118)).alloc (.cells #[.bool false, .bool false, .bool false, .bool false, .bool false, .bool false] 161)) (fun b => b < w.heap.size ∧ some b ≠ (Value.slice (some ⟨w.heap.size + 1 + 1, 0, none⟩) 1 1).ownBlock) ws [.slice o1 ws.length k1] := ⟨o1, k1, rfl, (WS.out.below (cloD u) (by decide) (B := w.heap.size) (by go_grown) nle).mono (cloD u) (by decide) fun b hb _ => ⟨hb, fun e => by injection e with e; have e2 : b = w.heap.size + 1 + 1 := e; omega⟩⟩
  refine ⟨[ws], List.replicate 6 false, ⟨some ⟨w.heap.size + 1 + 1, 0, none⟩, 1, rfl, ⟨⟨[.slice o1 ws.length k1], own_lit (by simp) (by simp) rfl (show 1 ≤ maxLen by decide), ?_⟩, rfl⟩, ?_, ?_, rfl, ?_, by go_grown, by simp⟩, S0⟩
  · exact Elems.one ((clo1 u).below PE ((Below.refl _ _).alloc nle _) nle) rfl
  · exact (Bk.new (cs := bools (List.replicate 6 false)) _ _ (by simp)).alloc _
  · exact ((Bk.new (cs := [.slice o1 ws.length k1, .slice o2 u.length k2]) _ _ rfl).alloc _).alloc _
  · intro l hl
    rw [List.mem_singleton.1 hl]; exact OW.out
 case round =>
  obtain ⟨T, R, ⟨o, c', rfl, GO, RE, X, hR6, NO, B1, q1⟩, RUN⟩ := hrel
  obtain ⟨v0, rfl⟩ : ∃ W, W = wr := ⟨_, rfl⟩
  have s1 := B1.size
  have ⟨Xc, Xf, Xl⟩ := X
  rcases List.eq_nil_or_concat T with rfl | ⟨T0, l, rfl⟩
  · have LB := Hd RUN.out.done
    have t1 : decide ((0 : Int) < (([] : List (List Pl.Need)).length : Int)) = false := rfl
    clear RUN NO GO
    go_wp2_with fail
    go_loopw [73] (fun j wv => ∃ k : Nat, k ≤ ch.length ∧ j = .int .i64 k ∧ Hid (∀ p (hp : p < ch.length), p < k → 0 ≤ ch[p] → R.getD p false = true) ∧ wv = v0) (fun j _ => ch.length - (intOf j).toNat)
    case atStart => exact ⟨0, Nat.zero_le _, rfl, Hd (fun _ _ h => absurd h (by omega)), rfl⟩
    case round =>
     obtain ⟨k, hk, rfl, UP, hv⟩ := hrel
     subst hv
     by_cases hlt2 : k < ch.length
     · have t6 : decide ((k : Int) < (ch.length : Int)) = true := decT (by omega)
       have t7 : decide (k < ch.length) = true := decT (by omega)
       have k6 : k < 6 := by omega
       have k6' : (k : Int) < 6 := by omega
       obtain ⟨bc, fc, rfl, hltc, hatc⟩ := Sl.cellsAt (HC.out.bl B1) (by omega)
       have y0 := hatc k hlt2
       have rc := RE.c k (bools_get (by omega))
       have GO1 := Hd (fun (h : 0 ≤ ch[k] → R.getD k false = true) (p : Nat) (hp : p < ch.length) (hp2 : p < k + 1) (h0 : 0 ≤ ch[p]) => show R.getD p false = true from by
        by_cases e : p = k
        · subst e; exact h h0
        · exact UP.out p hp (by omega) h0)
       have BAD := Hd (fun (h0 : 0 ≤ ch[k]) (e : R.getD k false = false) => LB.out.symm.trans (Pl.lastB_false hlt2 h0 e))
       clear hatc
       generalize ch[k] = y at *
       generalize R.getD k false = rr at *
       by_cases hy0 : 0 ≤ y
       · have t8 := decT hy0
         cases rr with
         | true =>
           have E := Hd (GO1.out fun _ => rfl)
           go_wp2_with fail
           go_roundw
           case rel => exact ⟨k + 1, hlt2, by go_num, E, trivial⟩
           case measure => simp [intOf]; omega
         | false =>
           have E := Hd (BAD.out hy0 rfl)
           go_wp2_with fail
           go_ret
           exact ⟨by rw [E.out]; rfl, B1⟩
       · have t8 := decF hy0
         have E := Hd (GO1.out fun h => absurd h hy0)
         go_wp2_with fail
         go_roundw
         case rel => exact ⟨k + 1, hlt2, by go_num, E, trivial⟩
         case measure => simp [intOf]; omega
     · have t6 : decide ((k : Int) < (ch.length : Int)) = false := decF (by omega)
       have t7 : decide (k < ch.length) = false := decF (by omega)
       have E := Hd (LB.out.symm.trans (Pl.lastB_true fun p hp h0 => UP.out p hp (by omega) h0))
       go_wp2_with fail
       go_ret
       exact ⟨by rw [E.out]; rfl, B1⟩
  · rw [List.concat_eq_append] at *
    obtain ⟨n, hn⟩ : ∃ n, (T0 ++ [l]).length = n := ⟨_, rfl⟩
    have hT0 : T0.length = n - 1 := by rw [← hn]; simp
    have hn0 : 0 < n := by rw [← hn]; simp
    have RI := Hd RUN.out.pop
    have hfr := frW_eq RE hR6
    have OL := Hd (NO l (by simp))
    have NO1 := Hd (fun x hx => NO x (List.mem_append_left _ hx))
    have hm0 : 2 * Pl.free R + n < 14 := by have := RUN.out.len; omega
    rw [hn] at GO ⊢
    obtain ⟨g, rfl, hg1, hg2⟩ := GO.ptr hn0
    obtain ⟨GO1, hnc, es, PL, hcell⟩ := GO.pop (clo1 u)
    obtain ⟨o4, c4, rfl, L4⟩ := PL
    have tcell := hcell _ rfl
    obtain ⟨i1, i2, i3, i4, i5, i6, i7⟩ := idx_prev hn0 (Nat.lt_succ_self n) (by omega)
    have j1 : (n : Int) - 1 ≤ (c' : Int) := by omega
    have hl4 : l.length ≤ 4 := OL.out.len
    replace L4 := Hd L4
    clear hcell RUN NO GO
    go_wp2_with fail
    go_loopw [6, 32] (fun v j wv => ∃ m T R2, m ≤ l.length ∧ j = .int .i64 m ∧ SInv w u [.slice o1 ws.length k1, .slice o2 u.length k2] T R2 v wv ∧ Hid (Pl.RunsIn u ch (2 * Pl.free R + T0.length) (l.drop m) T R2 res)) (fun _ j _ => l.length - (intOf j).toNat)
    case atStart => exact ⟨0, T0, R, Nat.zero_le _, rfl, ⟨_, _, by rw [hT0], by rw [hT0]; exact GO1, RE, X, hR6, NO1.out, B1, q1⟩, by rw [List.drop_zero]; exact RI⟩
    case round =>
     obtain ⟨m, T, R2, hm, rfl, ⟨ox, cx, rfl, GO, RE2, X2, hR62, NO, B2, q2⟩, RUN⟩ := hrel
     have s2 := B2.size
     clear Xc Xf Xl tcell GO1
     have ⟨Xc, Xf, Xl⟩ := X2
     by_cases hlt3 : m < l.length
     · have t6 : decide ((m : Int) < (l.length : Int)) = true := decT (by omega)
       have t7 : decide (m < l.length) = true := decT (by omega)
       have hq4 := L4.out.at'
       obtain ⟨b4, f4, rfl, hlt4, hat4⟩ := L4.out.dem (by omega)
       have hb4 : b4 < w.heap.size := by
        rcases hq4 with h0 | ⟨b', f', e, h1, _⟩
        · omega
        · cases e; exact h1
       obtain ⟨d0, d1, d2, d3, d4⟩ := hat4 m hlt3
       have tr : ∀ j, wr.cell? ⟨b4, j, none⟩ = v0.cell? ⟨b4, j, none⟩ := fun j => (B2.cell (p := ⟨b4, j, none⟩) hb4).trans (B1.cell (p := ⟨b4, j, none⟩) hb4).symm
       rw [← tr] at d0 d1 d2 d3 d4
       have hltw : b4 < wr.heap.size := by omega
       have DP := OL.out.pk _ (List.getElem_mem hlt3)
       have RU := Hd (show Pl.RunsIn u ch (2 * Pl.free R + T0.length) (l[m] :: l.drop (m + 1)) T R2 res by rw [← List.drop_eq_getElem_cons hlt3]; exact RUN.out)
       clear hq4 hat4 tr RUN
       generalize l[m] = x at *
       obtain ⟨pn, hpn⟩ : ∃ pn : Nat, x.pk = pn := ⟨x.pk.toNat, by omega⟩
       have hat : x.at' = pn := by unfold Pl.Need.at'; omega
       have pL : pn < u.length := by omega
       have pC : pn < ch.length := by omega
       have p6 : pn < 6 := by omega
       have p6' : (pn : Int) < 6 := by omega
       have pC' : (pn : Int) < (ch.length : Int) := by omega
       have pL' : (pn : Int) < (u.length : Int) := by omega
       rw [hpn] at d0
       obtain ⟨bc, fc, rfl, hltc, hatc⟩ := Sl.cellsAt (HC.out.bl B2) (by omega)
       have y0 := hatc pn pC
       have HCH := OC.out.at' pn pC pL
       obtain ⟨y, hy⟩ : ∃ y, ch[pn] = y := ⟨_, rfl⟩
       have HN := Hd (fun (yn : Nat) (e : ch[pn] = yn) (hk : yn < u[pn].length) => Pl.needsAt_get pC e pL hk)
       rw [hy] at y0 HCH
       clear hatc DP
       by_cases hy0 : y < 0
       · have E := Hd (RU.out.bad (Pl.satB_neg hpn pC (by rw [hy]; exact hy0)))
         have t8 := decT hy0
         clear HN
         go_wp2_with fail
         go_ret
         exact ⟨by rw [E.out]; rfl, by go_grown⟩
       · have t8 := decF hy0
         obtain ⟨yn, hyn⟩ : ∃ yn : Nat, y = yn := ⟨y.toNat, by omega⟩
         subst hyn
         have SB := Pl.satB_pos (u := u) hpn pC hy
         have RO := Hd (OK.out.rels _ (List.getElem_mem pL))
         have hk4 := RO.out.len
         have hkl : yn < u[pn].length := by omega
         have y4 : yn < 4 := by omega
         have y4' : (yn : Int) < 4 := by omega
         have NA := Hd (HN.out yn hy hkl)
         have vget := dm_get (u := u) (d := x) (p := (pn : Int)) y4
         obtain ⟨hv, hhv⟩ : ∃ hv, Pl.hasAt u x yn = hv := ⟨_, rfl⟩
         rw [hhv] at SB vget
         go_upto_region 10 with fail
         have V := Bk.new (cs := [.int .i64 (pn : Int), .bool (Pl.hasAt u x 0), .bool (Pl.hasAt u x 1), .bool (Pl.hasAt u x 2), .bool (Pl.hasAt u x 3)]) wr 164 rfl
         have vc := V.c (1 + yn) vget
         cases hv with
         | false =>
           have E := Hd (RU.out.bad SB)
           go_wp2_with fail
           go_ret
           exact ⟨by rw [E.out]; rfl, by go_grown⟩
         | true =>
           have rc := (RE2.alloc (.cells #[.int .i64 (pn : Int), .bool (Pl.hasAt u x 0), .bool (Pl.hasAt u x 1), .bool (Pl.hasAt u x 2), .bool (Pl.hasAt u x 3)] 164)).c pn (bools_get (by omega))
           have rf := (RE2.alloc (.cells #[.int .i64 (pn : Int), .bool (Pl.hasAt u x 0), .bool (Pl.hasAt u x 1), .bool (Pl.hasAt u x 2), .bool (Pl.hasAt u x 3)] 164)).f pn
           clear HN
           cases hr : R2.getD pn false with
           | true =>
             rw [hr] at rc
             have E := Hd (RU.out.old SB (by rw [hat]; exact hr))
             go_wp2_with fail
             go_roundw
             case rel => exact ⟨m + 1, T, R2, hlt3, by go_num, ⟨_, _, rfl, GO.alloc (clo1 u) _, RE2.alloc _, X2.alloc _, hR62, NO, by go_grown, by simp; omega⟩, E⟩
             case measure => simp [intOf]; omega
           | false =>
             rw [hr] at rc
             have E := Hd (RU.out.new SB (by rw [hat]; exact hr) (by omega))
             rw [hat, NA.out] at E
             have OKN := Hd (RO.out.ns _ (List.getElem_mem hkl))
             have hTl := RU.out.len
             have yk : (yn : Int) < (u[pn].length : Int) := by omega
             go_upto_region 14 with fail
             obtain ⟨b2, f2, b3, f3, c3, o5, c5, rfl, hb2, hb3, n1, n2, L5⟩ := HP.out.need pL hkl
             have B3 : Below w.heap.size w ((wr.alloc (.cells #[.int .i64 (pn : Int), .bool (Pl.hasAt u x 0), .bool (Pl.hasAt u x 1), .bool (Pl.hasAt u x 2), .bool (Pl.hasAt u x 3)] 164)).setCell ⟨w.heap.size + 1, pn, none⟩ (.bool true)) := by go_grown
             have GO2 := (GO.alloc (clo1 u) (.cells #[.int .i64 (pn : Int), .bool (Pl.hasAt u x 0), .bool (Pl.hasAt u x 1), .bool (Pl.hasAt u x 2), .bool (Pl.hasAt u x 3)] 164)).far (clo1 u) (b := w.heap.size + 1) (i := pn) (by omega) (by omega) (.bool true)
             have RE3 := (RE2.alloc (.cells #[.int .i64 (pn : Int), .bool (Pl.hasAt u x 0), .bool (Pl.hasAt u x 1), .bool (Pl.hasAt u x 2), .bool (Pl.hasAt u x 3)] 164)).set (k := pn) (by rw [bools_len]; omega) (.bool true)
             rw [bools_set] at RE3
             have X3 := (X2.alloc (.cells #[.int .i64 (pn : Int), .bool (Pl.hasAt u x 0), .bool (Pl.hasAt u x 1), .bool (Pl.hasAt u x 2), .bool (Pl.hasAt u x 3)] 164)).far (a := ⟨w.heap.size + 1, pn, none⟩) (by dsimp only; omega) (.bool true)
             have V3 := V.far (a := ⟨w.heap.size + 1, pn, none⟩) (by dsimp only; omega) (.bool true)
             have q3 : wr.heap.size + 1 ≤ ((wr.alloc (.cells #[.int .i64 (pn : Int), .bool (Pl.hasAt u x 0), .bool (Pl.hasAt u x 1), .bool (Pl.hasAt u x 2), .bool (Pl.hasAt u x 3)] 164)).setCell ⟨w.heap.size + 1, pn, none⟩ (.bool true)).heap.size := by simp
             clear Xc Xf Xl d0 d1 d2 d3 d4 y0 vc rc rf V hr RU
             generalize (wr.alloc (.cells #[.int .i64 (pn : Int), .bool (Pl.hasAt u x 0), .bool (Pl.hasAt u x 1), .bool (Pl.hasAt u x 2), .bool (Pl.hasAt u x 3)] 164)).setCell ⟨w.heap.size + 1, pn, none⟩ (.bool true) = w3 at *
             have m1 := (B3.cell (p := ⟨b2, f2 + pn, none⟩) hb2).trans n1
             have m2 := (B3.cell (p := ⟨b3, f3 + yn, none⟩) hb3).trans n2
             have hlt2 : b2 < w3.heap.size := by omega
             have hlt3' : b3 < w3.heap.size := by omega
             have PE : P1 u w3 (fun b => b < w.heap.size ∧ some b ≠ (Value.slice ox T.length cx).ownBlock) u[pn][yn].ns [.slice o5 u[pn][yn].ns.length c5] := ⟨o5, c5, rfl, (L5.below (cloD u) (by decide) B3 nle).mono (cloD u) (by decide) fun b h _ => ⟨h, fun e => by have := (GO2.lt b e.symm).1; omega⟩⟩
             have ⟨Xc, Xf, Xl⟩ := X3
             have ⟨Vc, Vf, Vl⟩ := V3
             clear n1 n2 L5
             generalize u[pn][yn].ns = ns at *
             go_wp2_with (at_builtin; go_loud (refine ap1g (clo1 u) Tryz.tD1 (by rfl) (by rfl) (by rfl) GO2 (c := 1) (E := [.slice o5 ns.length c5]) (by rfl) PE (by omega) (by omega) ?_); intro v7 w7 NEW hg7 hb7 hs7; have B7 : Below w.heap.size w w7 := bcall B3 hb7 (by omega); replace RE3 := RE3.below hb7 (by omega); replace X3 := X3.below hb7 (by omega); obtain ⟨o7, c7, rfl⟩ := NEW.slice; clear hg7 hb7 GO2 PE Xc Xf Xl Vc Vf Vl)
             have hl7 : (T ++ [ns]).length = T.length + 1 := by simp
             go_roundw
             case rel => exact ⟨_, _, _, _, _, ⟨m + 1, hlt3, rfl, T ++ [ns], R2.set pn true, ⟨o7, c7, by rw [hl7], by rw [hl7]; exact NEW, RE3, X3, by rw [List.length_set]; exact hR62, fun z hz => (List.mem_append.1 hz).elim (NO z) (fun h => by rw [List.mem_singleton.1 h]; exact OKN.out), B7, by omega⟩, by rw [← hT0]; exact E⟩, rfl, rfl, rfl, rfl, by go_num⟩
             case measure => simp [intOf]; omega
     · have t6 : decide ((m : Int) < (l.length : Int)) = false := decF (by omega)
       have t7 : decide (m < l.length) = false := decF (by omega)
       rw [List.drop_of_length_le (by omega)] at RUN
       obtain ⟨E1, E2⟩ := RUN.out.end_
       replace E1 := Hd E1
       have hf2 := frW_eq RE2 hR62
       clear RUN
       go_wp2_with fail
       go_roundw
       case rel => exact ⟨T, R2, ⟨_, _, rfl, GO, RE2, X2, hR62, NO, B2, q2⟩, E1⟩
       case measure => rw [hf2, hfr]; simp only [slN]; omega
end
section
namespace Pl
def tryK (f : Int → Option (List Int)) : Nat → Option (List Int)
 | 0 => none
 | k + 1 => match f ((k : Int) - 1) with
   | some x => some x
   | none => tryK f k
theorem tryK_some {f : Int → Option (List Int)} {k : Nat} {x : List Int} (h : f ((k : Int) - 1) = some x) : tryK f (k + 1) = some x := by
 unfold tryK; rw [h]
theorem tryK_none {f : Int → Option (List Int)} {k : Nat} (h : f ((k : Int) - 1) = none) : tryK f (k + 1) = tryK f k := by
 conv => lhs; unfold tryK
 rw [h]
theorem tryK_range (f : Int → Option (List Int)) : ∀ k : Nat, ((List.range k).map fun (j : Nat) => (k : Int) - 2 - (j : Int)).findSome? f = tryK f k
 | 0 => rfl
 | k + 1 => by
   have e : ((List.range (k + 1)).map fun (j : Nat) => ((k + 1 : Nat) : Int) - 2 - (j : Int)) = ((k : Int) - 1) :: ((List.range k).map fun (j : Nat) => (k : Int) - 2 - (j : Int)) := by
    rw [List.range_succ_eq_map, List.map_cons, List.map_map]
    congr 1
    · omega
    · apply List.map_congr_left
      intro j _
      simp only [Function.comp]
      omega
   rw [e, List.findSome?_cons, tryK_range f k]
   conv => rhs; unfold tryK
   cases f ((k : Int) - 1) <;> rfl
theorem srch_try (sol : List Int → Bool) (s : Nat) (r : List Nat) (pre : List Int) : srch sol (s :: r) pre = tryK (fun n => srch sol r (pre ++ [n])) (s + 1) := by
 rw [← tryK_range]
 show (downs s).findSome? _ = _
 unfold downs
 congr 1
 apply List.map_congr_left
 intro j _
 omega
theorem srch_end {sol : List Int → Bool} {pre : List Int} {b : Bool} (h : sol pre = b) : srch sol [] pre = if b = true then some pre else none := by subst h; rfl
theorem sizes_drop {u : Uni} {i : Nat} (h : i < u.length) : (sizes u).drop i = u[i].length :: (sizes u).drop (i + 1) := by
 unfold sizes
 rw [List.drop_eq_getElem_cons (by rw [List.length_map]; exact h), List.getElem_map]
theorem sizes_end {u : Uni} {i : Nat} (h : u.length ≤ i) : (sizes u).drop i = [] := List.drop_of_length_le (by unfold sizes; rw [List.length_map]; exact h)
theorem take_set {cs : List Int} {i : Nat} (h : i < cs.length) (n : Int) : (cs.set i n).take (i + 1) = cs.take i ++ [n] := by
 rw [List.take_succ_eq_append_getElem (by rw [List.length_set]; exact h), List.getElem_set_self, List.take_set_of_le nle]
theorem take_pre {cs' : List Int} {i : Nat} {pre : List Int} {n : Int} (hp : pre.length = i) (h : cs'.take (i + 1) = pre ++ [n]) : cs'.take i = pre := by
 have := congrArg (List.take i) h
 have e : pre.take i = pre := List.take_of_length_le (by omega)
 rw [List.take_take, Nat.min_eq_left (Nat.le_succ i), List.take_append_of_le_length (by omega), e] at this
 exact this
def After (sol : List Int → Bool) (ss : List Nat) (pre cs' : List Int) (b : Bool) : Prop := srch sol ss pre = if b = true then some cs' else none
end Pl
end
end Go.Proofs.YtolfgcoalihmgaaGreatDoor
