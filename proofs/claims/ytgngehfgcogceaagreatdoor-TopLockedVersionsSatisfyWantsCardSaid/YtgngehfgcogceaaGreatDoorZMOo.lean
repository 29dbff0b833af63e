/- Texts joined: Om Qi Oo. -/
import Derived.Test.YtgngehfgcogceaaGreatDoorZMQh
import Derived.Test.YtgngehfgcogceaaGreatDoorZMBn
import Derived.Deep.DeepCutAuto
section
/- Contract: does a selection solve a problem (problem.solved). -/
namespace Go.Proofs.YtgngehfgcogceaaGreatDoor
open Go.RowKit

/-- An own list, its last element taken off. -/
theorem GOwn.pop {α : Type} {e : TypeId} {P : World → (Nat → Prop) → α → List Value → Prop} (C : Clo 1 P) {w : World} {B : Nat} {R : Nat → Prop} {xs : List α} {x : α} {g c n : Nat} (h : GOwn e 1 P w B R (xs ++ [x]) (.slice (some ⟨g, 0, none⟩) n c) n) :
    GOwn e 1 P w B R xs (.slice (some ⟨g, 0, none⟩) (n - 1) c) (n - 1) ∧ n ≤ c ∧ ∃ es, P w (fun b => R b ∧ b ≠ g) x es ∧ ∀ u, es[0]? = some u → w.cell? ⟨g, n - 1, none⟩ = some u := by
  obtain ⟨cs, h1, h2⟩ := h.mem
  have hl := h.len
  have hn : xs.length = n - 1 := by simp at hl; omega
  have hn1 : xs.length + 1 = n := by simpa using hl
  refine ⟨⟨⟨cs.take (n - 1), ?_, ?_⟩, hn⟩, ?_, ?_⟩
  · refine ⟨?_, ?_⟩
    · rw [List.length_take, h1.1]; omega
    · rcases h1.2 with ⟨k, _⟩ | ⟨g', cap, cur, k, hbg, hgg, h5, h6, h7, h8⟩
      · cases k
      · refine .inr ⟨g', cap, cur, ?_, hbg, hgg, by omega, h6, h7, ?_⟩
        · injection k with k1 _ k3
          rw [k1, k3]
        · rw [← h8, List.take_take]; congr 1; omega
  · refine ⟨by rw [List.length_take, h2.len, List.length_append]; simp; omega, fun i hi => ?_⟩
    have := h2.each i (by simp; omega)
    rw [List.getElem_append_left hi] at this
    rw [List.drop_take, List.take_take, Nat.min_eq_left (by omega)]
    exact this
  · rcases h1.2 with ⟨k, _⟩ | ⟨g', cap, cur, k, hbg, hgg, h5, h6, h7, h8⟩
    · cases k
    · injection k with _ _ k3
      omega
  · have := h2.each (n - 1) (by simp; omega)
    rw [List.getElem_append_right (by omega)] at this
    simp only [hn, Nat.sub_self, List.getElem_singleton, Nat.mul_one] at this
    refine ⟨_, C.mono this (fun b hb _ => ⟨hb.1, fun e => hb.2 (by rw [e]; rfl)⟩), fun u hu => ?_⟩
    rw [List.getElem?_take, if_pos (by decide), List.getElem?_drop] at hu
    have := h1.cells (g := g) rfl (n - 1 + 0) u hu
    rwa [addr_add, Nat.zero_add, Nat.add_zero] at this
/-- What the needs of a release are, in an opened problem. -/
theorem ProbIn.need {w : World} {B : Nat} {u : Pl.Uni} {ws : List Pl.Need} {o1 o2 : Option Addr} {k1 k2 : Nat} (h : ProbIn w B u ws o1 k1 o2 k2) {p k : Nat} (hp : p < u.length) (hk : k < u[p].length) :
    ∃ b2 f2 b3 f3 c3 o4 c4, o2 = some ⟨b2, f2, none⟩ ∧ b2 < w.heap.size ∧ b3 < w.heap.size ∧ w.cell? ⟨b2, f2 + p, none⟩ = some (.slice (some ⟨b3, f3, none⟩) u[p].length c3) ∧ w.cell? ⟨b3, f3 + k, none⟩ = some (.slice o4 u[p][k].ns.length c4) ∧ LQ 5 (Pd u) w (fun g => g < w.heap.size) u[p][k].ns o4 c4 := by
  obtain ⟨b2, f2, e2, hl2, hat⟩ := h.ns.pos (by decide) (by rw [Pl.nsAll_len]; omega)
  obtain ⟨es, ⟨o3, c3, rfl, L3⟩, hc⟩ := hat p (by rw [Pl.nsAll_len]; exact hp)
  have e3 : (Pl.nsAll u)[p]'(by rw [Pl.nsAll_len]; exact hp) = Pl.nsOf u[p] := by simp [Pl.nsAll]
  rw [e3] at L3 hc
  obtain ⟨b3, f3, rfl, hl3, hat3⟩ := L3.pos (by decide) (by rw [Pl.nsOf_len]; omega)
  obtain ⟨es, ⟨o4, c4, rfl, L4⟩, hc4⟩ := hat3 k (by rw [Pl.nsOf_len]; exact hk)
  have e4 : (Pl.nsOf u[p])[k]'(by rw [Pl.nsOf_len]; exact hk) = u[p][k].ns := by simp [Pl.nsOf]
  rw [e4] at L4 hc4
  have q1 := hc 0 _ rfl
  have q2 := hc4 0 _ rfl
  rw [Nat.mul_one, Nat.add_zero, Pl.nsOf_len] at q1
  rw [Nat.mul_one, Nat.add_zero] at q2
  exact ⟨b2, f2, b3, f3, c3, o4, c4, e2, hl2, hl3, q1, q2, L4.mono (cloD u) (by decide) fun b _ hb => hb⟩
/-- One demand of a list. -/
theorem LQ.dem {w : World} {Q : Nat → Prop} {u : Pl.Uni} {l : List Pl.Need} {a : Option Addr} {c : Nat} (h : LQ 5 (Pd u) w Q l a c) (h0 : 0 < l.length) : ∃ b off, a = some ⟨b, off, none⟩ ∧ b < w.heap.size ∧ ∀ k (hk : k < l.length), w.cell? ⟨b, off + k * 5, none⟩ = some (.int .i64 l[k].pk) ∧ w.cell? ⟨b, off + k * 5 + 1, none⟩ = some (.bool (Pl.hasAt u l[k] 0)) ∧ w.cell? ⟨b, off + k * 5 + 2, none⟩ = some (.bool (Pl.hasAt u l[k] 1)) ∧ w.cell? ⟨b, off + k * 5 + 3, none⟩ = some (.bool (Pl.hasAt u l[k] 2)) ∧ w.cell? ⟨b, off + k * 5 + 4, none⟩ = some (.bool (Pl.hasAt u l[k] 3)) := by
  obtain ⟨b, off, e, hlt, hat⟩ := h.pos (by decide) h0
  refine ⟨b, off, e, hlt, fun k hk => ?_⟩
  obtain ⟨es, he, hc⟩ := hat k hk
  unfold Pd at he
  subst he
  exact ⟨hc 0 _ rfl, hc 1 _ rfl, hc 2 _ rfl, hc 3 _ rfl, hc 4 _ rfl⟩
def bools (R : List Bool) : List Value := R.map Value.bool
theorem bools_get {R : List Bool} {p : Nat} (h : p < R.length) : (bools R)[p]? = some (.bool (R.getD p false)) := by
  unfold bools
  rw [List.getElem?_map, List.getElem?_eq_getElem h, List.getD_eq_getElem?_getD, List.getElem?_eq_getElem h]; rfl
theorem bools_set (R : List Bool) (p : Nat) (b : Bool) : (bools R).set p (.bool b) = bools (R.set p b) := by unfold bools; rw [List.map_set]
theorem bools_len (R : List Bool) : (bools R).length = R.length := List.length_map ..
/-- Where an own list lies that is not empty. -/
theorem GOwn.ptr {α : Type} {e : TypeId} {sz : Nat} {P : World → (Nat → Prop) → α → List Value → Prop} {w : World} {B : Nat} {R : Nat → Prop} {xs : List α} {o : Option Addr} {n c : Nat} (h : GOwn e sz P w B R xs (.slice o n c) n) (h0 : 0 < n) : ∃ g, o = some ⟨g, 0, none⟩ ∧ B ≤ g ∧ g < w.heap.size := by
  obtain ⟨cs, h1, _⟩ := h.mem
  rcases h1.2 with ⟨_, k⟩ | ⟨g, cap, cur, k, hbg, hgg, _⟩
  · omega
  · injection k with k1 _ _
    exact ⟨g, k1, hbg, (Array.getElem?_eq_some_iff.1 hgg).1⟩
theorem dm_get {u : Pl.Uni} {d : Pl.Need} {p : Int} {k : Nat} (hk : k < 4) : [Value.int .i64 p, .bool (Pl.hasAt u d 0), .bool (Pl.hasAt u d 1), .bool (Pl.hasAt u d 2), .bool (Pl.hasAt u d 3)][1 + k]? = some (.bool (Pl.hasAt u d k)) := by
  have h : k = 0 ∨ k = 1 ∨ k = 2 ∨ k = 3 := by omega
  rcases h with rfl | rfl | rfl | rfl <;> rfl
open Classical in
/-- How many marks are still free, read off memory. -/
noncomputable def frW (w : World) (r : Nat) : Nat := (List.range 6).countP fun j => decide (w.cell? ⟨r, j, none⟩ = some (.bool false))
open Classical in
theorem frW_eq {w : World} {r : Nat} {R : List Bool} (h : Bk w r (bools R)) (hR : R.length = 6) : frW w r = Pl.free R := by
  have E : frW w r = (List.range 6).countP fun j => decide ((bools R)[j]? = some (.bool false)) := by
    unfold frW
    congr 1
    funext j
    rw [h.a j]
  rw [E]
  unfold Pl.free
  match R, hR with
  | [x0, x1, x2, x3, x4, x5], _ =>
    have e6 : List.range 6 = [0, 1, 2, 3, 4, 5] := rfl
    rw [e6]
    simp only [bools, List.map_cons, List.map_nil, List.countP_cons, List.countP_nil, List.getElem?_cons_zero, List.getElem?_cons_succ]
    cases x0 <;> cases x1 <;> cases x2 <;> cases x3 <;> cases x4 <;> cases x5 <;> simp
def slN : Value → Nat
  | .slice _ n _ => n
  | _ => 0
/-- Where the search for what is lacking stands. -/
def SInv (w : World) (u : Pl.Uni) (X : List Value) (T : List (List Pl.Need)) (R : List Bool) (v : Value) (wr : World) : Prop :=
  ∃ o c', v = .slice o T.length c' ∧ GOwn 60 1 (P1 u) wr (w.heap.size + 2) (fun b => b < w.heap.size) T (.slice o T.length c') T.length ∧ Bk wr (w.heap.size + 1) (bools R) ∧ Bk wr w.heap.size X ∧ R.length = 6 ∧ (∀ l ∈ T, Pl.NeedsOk u.length l) ∧ Below w.heap.size w wr ∧ w.heap.size + 2 ≤ wr.heap.size

set_option maxRecDepth 100000 in
set_option maxHeartbeats 16000000 in
theorem solved_any (u : Pl.Uni) (ws : List Pl.Need) (ch : List Int) (o1 o2 b : Option Addr) (k1 k2 d B : Nat) (w : World) (hP : ProbIn w B u ws o1 k1 o2 k2) (hC : Sl w b ch.length d 1 (intVals ch)) (ok : Pl.UniOk u) (okw : Pl.NeedsOk u.length ws) (okc : Pl.ChOk u ch) :
    Calls Tryz.prog 17 #[.agg #[.slice o1 ws.length k1, .slice o2 u.length k2], .slice b ch.length d] w fun e w' => e = .returned (.bool (Pl.solB u ws ch)) ∧ Below w.heap.size w w' := by
  have HP := Lib.hid hP
  have HC := Lib.hid hC
  have OK := Lib.hid ok
  have OW := Lib.hid okw
  have OC := Lib.hid okc
  have hm := hC.len
  have hcu := okc.len
  have hu6 := ok.len
  obtain ⟨res, hres⟩ : ∃ res, Pl.solB u ws ch = res := ⟨_, rfl⟩
  have S0 := Pl.Runs.start u ws ch
  rw [hres] at S0 ⊢
  replace S0 := Lib.hid S0
  have WS := Lib.hid (hP.ws.mono (cloD u) (by decide) (R := fun g => g < w.heap.size) fun b _ h => h)
  clear hP hC ok okw okc hres
  go_enter Tryz.func17, Tryz.ntmps17
  go_wp2_with fail
  go_loopw [6] (fun v wv => ∃ T R, SInv w u [.slice o1 ws.length k1, .slice o2 u.length k2] T R v wv ∧ Hid (Pl.Runs u ch T R res)) (fun v wv => 2 * frW wv (w.heap.size + 1) + slN v)
  case atStart =>
    have PE : P1 u ((w.alloc (.cells #[.slice o1 ws.length k1, .slice o2 u.length k2] 63)).alloc (.cells #[.bool false, .bool false, .bool false, .bool false, .bool false, .bool false] 89)) (fun b => b < w.heap.size ∧ some b ≠ (Value.slice (some ⟨w.heap.size + 1 + 1, 0, none⟩) 1 1).ownBlock) ws [.slice o1 ws.length k1] := ⟨o1, k1, rfl, (WS.out.below (cloD u) (by decide) (B := w.heap.size) (by go_grown) (Nat.le_refl _)).mono (cloD u) (by decide) fun b hb _ => ⟨hb, fun e => by injection e with e; have e2 : b = w.heap.size + 1 + 1 := e; omega⟩⟩
    refine ⟨[ws], List.replicate 6 false, ⟨some ⟨w.heap.size + 1 + 1, 0, none⟩, 1, rfl, ⟨⟨[.slice o1 ws.length k1], own_lit (by simp) (by simp) rfl (show 1 ≤ maxLen by decide), ?_⟩, rfl⟩, ?_, ?_, rfl, ?_, by go_grown, by simp⟩, S0⟩
    · exact Elems.one ((clo1 u).below PE ((Below.refl _ _).alloc (Nat.le_refl _) _) (Nat.le_refl _)) rfl
    · exact (Bk.new (cs := bools (List.replicate 6 false)) _ _ (by simp)).alloc _
    · exact ((Bk.new (cs := [.slice o1 ws.length k1, .slice o2 u.length k2]) _ _ rfl).alloc _).alloc _
    · intro l hl
      rw [List.mem_singleton.1 hl]; exact OW.out
  case round =>
    obtain ⟨T, R, ⟨o, c', rfl, GO, RE, X, hR6, NO, B1, q1⟩, RUN⟩ := hrel
    obtain ⟨v0, rfl⟩ : ∃ W, W = wr := ⟨_, rfl⟩
    have s1 : w.heap.size ≤ v0.heap.size := B1.size
    obtain ⟨X_c, X_f, X_l⟩ := id X
    rcases List.eq_nil_or_concat T with rfl | ⟨T0, l, rfl⟩
    · have LB := Lib.hid RUN.out.done
      have t1 : decide ((0 : Int) < (([] : List (List Pl.Need)).length : Int)) = false := rfl
      clear RUN NO GO
      go_wp2_with fail
      go_loopw [73] (fun j wv => ∃ k : Nat, k ≤ ch.length ∧ j = .int .i64 k ∧ Hid (∀ p (hp : p < ch.length), p < k → 0 ≤ ch[p] → R.getD p false = true) ∧ wv = v0) (fun j _ => ch.length - (intOf j).toNat)
      case atStart => exact ⟨0, Nat.zero_le _, rfl, Lib.hid (fun _ _ h => absurd h (by omega)), rfl⟩
      case round =>
        obtain ⟨k, hk, rfl, UP, hv⟩ := hrel
        subst hv
        by_cases hlt2 : k < ch.length
        · have t6 : decide ((k : Int) < (ch.length : Int)) = true := decT (by omega)
          have t7 : decide (k < ch.length) = true := decT (by omega)
          have k6 : k < 6 := by omega
          have k6' : (k : Int) < 6 := by omega
          obtain ⟨bc, fc, rfl, hltc, hatc⟩ := Sl.cellsAt (HC.out.below B1 (Nat.le_refl _)) (by omega)
          have y0 := hatc k hlt2
          have rc := RE.c k (bools_get (by omega))
          have GO1 := Lib.hid (fun (h : 0 ≤ ch[k] → R.getD k false = true) (p : Nat) (hp : p < ch.length) (hp2 : p < k + 1) (h0 : 0 ≤ ch[p]) => show R.getD p false = true from by
            by_cases e : p = k
            · subst e; exact h h0
            · exact UP.out p hp (by omega) h0)
          have BAD := Lib.hid (fun (h0 : 0 ≤ ch[k]) (e : R.getD k false = false) => LB.out.symm.trans (Pl.lastB_false hlt2 h0 e))
          clear hatc
          generalize ch[k] = y at *
          generalize R.getD k false = rr at *
          by_cases hy0 : 0 ≤ y
          · have t8 := decT hy0
            cases rr with
            | true =>
              have E := Lib.hid (GO1.out fun _ => rfl)
              go_wp2_with fail
              go_roundw
              case rel => exact ⟨k + 1, hlt2, by go_num, E, trivial⟩
              case measure => simp [intOf]; omega
            | false =>
              have E := Lib.hid (BAD.out hy0 rfl)
              go_wp2_with fail
              go_ret
              exact ⟨by rw [E.out]; rfl, B1⟩
          · have t8 := decF hy0
            have E := Lib.hid (GO1.out fun h => absurd h hy0)
            go_wp2_with fail
            go_roundw
            case rel => exact ⟨k + 1, hlt2, by go_num, E, trivial⟩
            case measure => simp [intOf]; omega
        · have t6 : decide ((k : Int) < (ch.length : Int)) = false := decF (by omega)
          have t7 : decide (k < ch.length) = false := decF (by omega)
          have E := Lib.hid (LB.out.symm.trans (Pl.lastB_true fun p hp h0 => UP.out p hp (by omega) h0))
          go_wp2_with fail
          go_ret
          exact ⟨by rw [E.out]; rfl, B1⟩
    · rw [List.concat_eq_append] at *
      obtain ⟨n, hn⟩ : ∃ n, (T0 ++ [l]).length = n := ⟨_, rfl⟩
      have hT0 : T0.length = n - 1 := by rw [← hn]; simp
      have hn0 : 0 < n := by rw [← hn]; simp
      have RI := Lib.hid RUN.out.pop
      have hfr := frW_eq RE hR6
      have OL := Lib.hid (NO l (by simp))
      have NO1 := Lib.hid (fun x hx => NO x (List.mem_append_left _ hx))
      have hm0 : 2 * Pl.free R + n < 14 := by have := RUN.out.len; omega
      rw [hn] at GO ⊢
      obtain ⟨g, rfl, hg1, hg2⟩ := GO.ptr hn0
      obtain ⟨GO1, hnc, es, PL, hcell⟩ := GO.pop (clo1 u)
      obtain ⟨o4, c4, rfl, L4⟩ := PL
      have tcell := hcell _ rfl
      obtain ⟨i1, i2, i3, i4, i5, i6, i7⟩ := idx_prev hn0 (Nat.lt_succ_self n) (by omega)
      have j1 : (n : Int) - 1 ≤ (c' : Int) := by omega
      have hl4 : l.length ≤ 4 := OL.out.len
      replace L4 := Lib.hid L4
      clear hcell RUN NO GO
      go_wp2_with fail
      go_loopw [6, 32] (fun v j wv => ∃ m T R2, m ≤ l.length ∧ j = .int .i64 m ∧ SInv w u [.slice o1 ws.length k1, .slice o2 u.length k2] T R2 v wv ∧ Hid (Pl.RunsIn u ch (2 * Pl.free R + T0.length) (l.drop m) T R2 res)) (fun _ j _ => l.length - (intOf j).toNat)
      case atStart => exact ⟨0, T0, R, Nat.zero_le _, rfl, ⟨_, _, by rw [hT0], by rw [hT0]; exact GO1, RE, X, hR6, NO1.out, B1, q1⟩, by rw [List.drop_zero]; exact RI⟩
      case round =>
        obtain ⟨m, T, R2, hm, rfl, ⟨ox, cx, rfl, GO, RE2, X2, hR62, NO, B2, q2⟩, RUN⟩ := hrel
        have s2 : w.heap.size ≤ wr.heap.size := B2.size
        clear X_c X_f X_l tcell GO1
        obtain ⟨X_c, X_f, X_l⟩ := id X2
        by_cases hlt3 : m < l.length
        · have t6 : decide ((m : Int) < (l.length : Int)) = true := decT (by omega)
          have t7 : decide (m < l.length) = true := decT (by omega)
          have hq4 := L4.out.at'
          obtain ⟨b4, f4, rfl, hlt4, hat4⟩ := L4.out.dem (by omega)
          have hb4 : b4 < w.heap.size := by
            rcases hq4 with h0 | ⟨b', f', e, h1, _⟩
            · omega
            · cases e; exact h1
          obtain ⟨d0, d1, d2, d3, d4⟩ := hat4 m hlt3
          have tr : ∀ j, wr.cell? ⟨b4, j, none⟩ = v0.cell? ⟨b4, j, none⟩ := fun j => (B2.cell (p := ⟨b4, j, none⟩) hb4).trans (B1.cell (p := ⟨b4, j, none⟩) hb4).symm
          rw [← tr] at d0 d1 d2 d3 d4
          have hltw : b4 < wr.heap.size := by omega
          have DP := OL.out.pk _ (List.getElem_mem hlt3)
          have RU := Lib.hid (show Pl.RunsIn u ch (2 * Pl.free R + T0.length) (l[m] :: l.drop (m + 1)) T R2 res by rw [← List.drop_eq_getElem_cons hlt3]; exact RUN.out)
          clear hq4 hat4 tr RUN
          generalize l[m] = x at *
          obtain ⟨pn, hpn⟩ : ∃ pn : Nat, x.pk = pn := ⟨x.pk.toNat, by omega⟩
          have hat : x.at' = pn := by unfold Pl.Need.at'; omega
          have pL : pn < u.length := by omega
          have pC : pn < ch.length := by omega
          have p6 : pn < 6 := by omega
          have p6' : (pn : Int) < 6 := by omega
          have pC' : (pn : Int) < (ch.length : Int) := by omega
          have pL' : (pn : Int) < (u.length : Int) := by omega
          rw [hpn] at d0
          obtain ⟨bc, fc, rfl, hltc, hatc⟩ := Sl.cellsAt (HC.out.below B2 (Nat.le_refl _)) (by omega)
          have y0 := hatc pn pC
          have HCH := OC.out.at' pn pC pL
          obtain ⟨y, hy⟩ : ∃ y, ch[pn] = y := ⟨_, rfl⟩
          have HN := Lib.hid (fun (yn : Nat) (e : ch[pn] = yn) (hk : yn < u[pn].length) => Pl.needsAt_get pC e pL hk)
          rw [hy] at y0 HCH
          clear hatc DP
          by_cases hy0 : y < 0
          · have E := Lib.hid (RU.out.bad (Pl.satB_neg hpn pC (by rw [hy]; exact hy0)))
            have t8 := decT hy0
            clear HN
            go_wp2_with fail
            go_ret
            exact ⟨by rw [E.out]; rfl, by go_grown⟩
          · have t8 := decF hy0
            obtain ⟨yn, hyn⟩ : ∃ yn : Nat, y = yn := ⟨y.toNat, by omega⟩
            subst hyn
            have SB := Pl.satB_pos (u := u) hpn pC hy
            have RO := Lib.hid (OK.out.rels _ (List.getElem_mem pL))
            have hk4 := RO.out.len
            have hkl : yn < u[pn].length := by omega
            have y4 : yn < 4 := by omega
            have y4' : (yn : Int) < 4 := by omega
            have NA := Lib.hid (HN.out yn hy hkl)
            have vget := dm_get (u := u) (d := x) (p := (pn : Int)) y4
            obtain ⟨hv, hhv⟩ : ∃ hv, Pl.hasAt u x yn = hv := ⟨_, rfl⟩
            rw [hhv] at SB vget
            go_upto_region 10 with fail
            have V := Bk.new (cs := [.int .i64 (pn : Int), .bool (Pl.hasAt u x 0), .bool (Pl.hasAt u x 1), .bool (Pl.hasAt u x 2), .bool (Pl.hasAt u x 3)]) wr 92 rfl
            have vc := V.c (1 + yn) vget
            cases hv with
            | false =>
              have E := Lib.hid (RU.out.bad SB)
              go_wp2_with fail
              go_ret
              exact ⟨by rw [E.out]; rfl, by go_grown⟩
            | true =>
              have rc := (RE2.alloc (.cells #[.int .i64 (pn : Int), .bool (Pl.hasAt u x 0), .bool (Pl.hasAt u x 1), .bool (Pl.hasAt u x 2), .bool (Pl.hasAt u x 3)] 92)).c pn (bools_get (by omega))
              have rf := (RE2.alloc (.cells #[.int .i64 (pn : Int), .bool (Pl.hasAt u x 0), .bool (Pl.hasAt u x 1), .bool (Pl.hasAt u x 2), .bool (Pl.hasAt u x 3)] 92)).f pn
              clear HN
              cases hr : R2.getD pn false with
              | true =>
                rw [hr] at rc
                have E := Lib.hid (RU.out.old SB (by rw [hat]; exact hr))
                go_wp2_with fail
                go_roundw
                case rel => exact ⟨m + 1, T, R2, hlt3, by go_num, ⟨_, _, rfl, GO.alloc (clo1 u) _, RE2.alloc _, X2.alloc _, hR62, NO, by go_grown, by simp; omega⟩, E⟩
                case measure => simp [intOf]; omega
              | false =>
                rw [hr] at rc
                have E := Lib.hid (RU.out.new SB (by rw [hat]; exact hr) (by omega))
                rw [hat, NA.out] at E
                have OKN := Lib.hid (RO.out.ns _ (List.getElem_mem hkl))
                have hTl := RU.out.len
                have yk : (yn : Int) < (u[pn].length : Int) := by omega
                go_upto_region 14 with fail
                obtain ⟨b2, f2, b3, f3, c3, o5, c5, rfl, hb2, hb3, n1, n2, L5⟩ := HP.out.need pL hkl
                have B3 : Below w.heap.size w ((wr.alloc (.cells #[.int .i64 (pn : Int), .bool (Pl.hasAt u x 0), .bool (Pl.hasAt u x 1), .bool (Pl.hasAt u x 2), .bool (Pl.hasAt u x 3)] 92)).setCell ⟨w.heap.size + 1, pn, none⟩ (.bool true)) := by go_grown
                have GO2 := (GO.alloc (clo1 u) (.cells #[.int .i64 (pn : Int), .bool (Pl.hasAt u x 0), .bool (Pl.hasAt u x 1), .bool (Pl.hasAt u x 2), .bool (Pl.hasAt u x 3)] 92)).far (clo1 u) (b := w.heap.size + 1) (i := pn) (by omega) (by omega) (.bool true)
                have RE3 := (RE2.alloc (.cells #[.int .i64 (pn : Int), .bool (Pl.hasAt u x 0), .bool (Pl.hasAt u x 1), .bool (Pl.hasAt u x 2), .bool (Pl.hasAt u x 3)] 92)).set (k := pn) (by rw [bools_len]; omega) (.bool true)
                rw [bools_set] at RE3
                have X3 := (X2.alloc (.cells #[.int .i64 (pn : Int), .bool (Pl.hasAt u x 0), .bool (Pl.hasAt u x 1), .bool (Pl.hasAt u x 2), .bool (Pl.hasAt u x 3)] 92)).far (a := ⟨w.heap.size + 1, pn, none⟩) (by dsimp only; omega) (.bool true)
                have V3 := V.far (a := ⟨w.heap.size + 1, pn, none⟩) (by dsimp only; omega) (.bool true)
                have q3 : wr.heap.size + 1 ≤ ((wr.alloc (.cells #[.int .i64 (pn : Int), .bool (Pl.hasAt u x 0), .bool (Pl.hasAt u x 1), .bool (Pl.hasAt u x 2), .bool (Pl.hasAt u x 3)] 92)).setCell ⟨w.heap.size + 1, pn, none⟩ (.bool true)).heap.size := by simp
                clear X_c X_f X_l d0 d1 d2 d3 d4 y0 vc rc rf V hr RU
                generalize (wr.alloc (.cells #[.int .i64 (pn : Int), .bool (Pl.hasAt u x 0), .bool (Pl.hasAt u x 1), .bool (Pl.hasAt u x 2), .bool (Pl.hasAt u x 3)] 92)).setCell ⟨w.heap.size + 1, pn, none⟩ (.bool true) = w3 at *
                have m1 := (B3.cell (p := ⟨b2, f2 + pn, none⟩) hb2).trans n1
                have m2 := (B3.cell (p := ⟨b3, f3 + yn, none⟩) hb3).trans n2
                have hlt2 : b2 < w3.heap.size := by omega
                have hlt3' : b3 < w3.heap.size := by omega
                have PE : P1 u w3 (fun b => b < w.heap.size ∧ some b ≠ (Value.slice ox T.length cx).ownBlock) u[pn][yn].ns [.slice o5 u[pn][yn].ns.length c5] := ⟨o5, c5, rfl, (L5.below (cloD u) (by decide) B3 (Nat.le_refl _)).mono (cloD u) (by decide) fun b h _ => ⟨h, fun e => by have := (GO2.lt b e.symm).1; omega⟩⟩
                obtain ⟨X_c, X_f, X_l⟩ := id X3
                obtain ⟨V_c, V_f, V_l⟩ := id V3
                clear n1 n2 L5
                generalize u[pn][yn].ns = ns at *
                go_wp2_with (at_builtin; go_loud (refine ap1g (clo1 u) Tryz.tD1 (by rfl) (by rfl) (by rfl) GO2 (c := 1) (E := [.slice o5 ns.length c5]) (by rfl) PE (by omega) (by omega) ?_); intro v7 w7 NEW hg7 hb7 hs7; have B7 : Below w.heap.size w w7 := bcall B3 hb7 (by omega); replace RE3 := RE3.below hb7 (by omega); replace X3 := X3.below hb7 (by omega); obtain ⟨o7, c7, rfl⟩ := NEW.slice; clear hg7 hb7 GO2 PE X_c X_f X_l V_c V_f V_l)
                have hl7 : (T ++ [ns]).length = T.length + 1 := by simp
                go_roundw
                case rel => exact ⟨_, _, _, _, _, ⟨m + 1, hlt3, rfl, T ++ [ns], R2.set pn true, ⟨o7, c7, by rw [hl7], by rw [hl7]; exact NEW, RE3, X3, by rw [List.length_set]; exact hR62, fun z hz => (List.mem_append.1 hz).elim (NO z) (fun h => by rw [List.mem_singleton.1 h]; exact OKN.out), B7, by omega⟩, by rw [← hT0]; exact E⟩, rfl, rfl, rfl, rfl, by go_num⟩
                case measure => simp [intOf]; omega
        · have t6 : decide ((m : Int) < (l.length : Int)) = false := decF (by omega)
          have t7 : decide (m < l.length) = false := decF (by omega)
          rw [List.drop_of_length_le (by omega)] at RUN
          obtain ⟨E1, E2⟩ := RUN.out.end_
          replace E1 := Lib.hid E1
          have hf2 := frW_eq RE2 hR62
          clear RUN
          go_wp2_with fail
          go_roundw
          case rel => exact ⟨T, R2, ⟨_, _, rfl, GO, RE2, X2, hR62, NO, B2, q2⟩, E1⟩
          case measure => rw [hf2, hfr]; simp only [slN]; omega
end Go.Proofs.YtgngehfgcogceaaGreatDoor

end
section
/- The search's loop over the releases of a package, downwards. No program in sight. -/
namespace Go.Proofs.YtgngehfgcogceaaGreatDoor
namespace Pl

/-- The first that is found at k - 2, k - 3, .., -1. -/
def tryK (f : Int → Option (List Int)) : Nat → Option (List Int)
  | 0 => none
  | k + 1 => match f ((k : Int) - 1) with
    | some x => some x
    | none => tryK f k
theorem tryK_some {f : Int → Option (List Int)} {k : Nat} {x : List Int} (h : f ((k : Int) - 1) = some x) : tryK f (k + 1) = some x := by
  unfold tryK; rw [h]
theorem tryK_none {f : Int → Option (List Int)} {k : Nat} (h : f ((k : Int) - 1) = none) : tryK f (k + 1) = tryK f k := by
  conv => lhs; unfold tryK
  rw [h]
theorem tryK_range (f : Int → Option (List Int)) : ∀ k : Nat, ((List.range k).map fun (j : Nat) => (k : Int) - 2 - (j : Int)).findSome? f = tryK f k
  | 0 => rfl
  | k + 1 => by
    have e : ((List.range (k + 1)).map fun (j : Nat) => ((k + 1 : Nat) : Int) - 2 - (j : Int)) = ((k : Int) - 1) :: ((List.range k).map fun (j : Nat) => (k : Int) - 2 - (j : Int)) := by
      rw [List.range_succ_eq_map, List.map_cons, List.map_map]
      congr 1
      · omega
      · apply List.map_congr_left
        intro j _
        simp only [Function.comp]
        omega
    rw [e, List.findSome?_cons, tryK_range f k]
    conv => rhs; unfold tryK
    cases f ((k : Int) - 1) <;> rfl
theorem srch_try (sol : List Int → Bool) (s : Nat) (r : List Nat) (pre : List Int) : srch sol (s :: r) pre = tryK (fun n => srch sol r (pre ++ [n])) (s + 1) := by
  rw [← tryK_range]
  show (downs s).findSome? _ = _
  unfold downs
  congr 1
  apply List.map_congr_left
  intro j _
  omega
theorem srch_end {sol : List Int → Bool} {pre : List Int} {b : Bool} (h : sol pre = b) : srch sol [] pre = if b = true then some pre else none := by subst h; rfl
theorem sizes_drop {u : Uni} {i : Nat} (h : i < u.length) : (sizes u).drop i = u[i].length :: (sizes u).drop (i + 1) := by
  unfold sizes
  rw [List.drop_eq_getElem_cons (by rw [List.length_map]; exact h), List.getElem_map]
theorem sizes_end {u : Uni} {i : Nat} (h : u.length ≤ i) : (sizes u).drop i = [] := List.drop_of_length_le (by unfold sizes; rw [List.length_map]; exact h)
theorem take_set {cs : List Int} {i : Nat} (h : i < cs.length) (n : Int) : (cs.set i n).take (i + 1) = cs.take i ++ [n] := by
  rw [List.take_succ_eq_append_getElem (by rw [List.length_set]; exact h), List.getElem_set_self, List.take_set_of_le (Nat.le_refl _)]
theorem take_pre {cs' : List Int} {i : Nat} {pre : List Int} {n : Int} (hp : pre.length = i) (h : cs'.take (i + 1) = pre ++ [n]) : cs'.take i = pre := by
  have := congrArg (List.take i) h
  have e : pre.take i = pre := List.take_of_length_le (by omega)
  rw [List.take_take, Nat.min_eq_left (Nat.le_succ i), List.take_append_of_le_length (by omega), e] at this
  exact this
/-- What the search leaves behind. -/
def After (sol : List Int → Bool) (ss : List Nat) (pre cs' : List Int) (b : Bool) : Prop := srch sol ss pre = if b = true then some cs' else none
end Pl
end Go.Proofs.YtgngehfgcogceaaGreatDoor

end
section
/- Contract: the search by recursion (the function inside solver.Solve). -/
namespace Go.Proofs.YtgngehfgcogceaaGreatDoor
open Go.RowKit

theorem grownBy_trans {a w w' : World} {row : Option Nat} (h : a.grownBy w row) (k : w.grownBy w' row) : a.grownBy w' row :=
  ⟨k.os.trans h.os, k.tape.trans h.tape, k.output.trans h.output, Nat.le_trans h.size k.size, fun b hb hne => (k.block b (Nat.lt_of_lt_of_le hb h.size) hne).trans (h.block b hb hne)⟩
theorem grownBy_setB {a w : World} {b : Nat} (h : a.grownBy w (some b)) (i : Nat) (v : Value) : a.grownBy (w.setCell ⟨b, i, none⟩ v) (some b) := grownBy_trans h (grown_setCell w b i v)
theorem grownBy_some {w w' : World} (h : w.grownBy w' none) (r : Option Nat) : w.grownBy w' r := ⟨h.os, h.tape, h.output, h.size, fun k hk _ => h.block k hk (fun e => by cases e)⟩
/-- The search's variables: the selection's, the problem's, the universe's, its own. -/
def capt (bc bp bu bs : Nat) : Array Value := #[.pointer (some ⟨bc, 0, none⟩), .pointer (some ⟨bp, 0, none⟩), .pointer (some ⟨bu, 0, none⟩), .pointer (some ⟨bs, 0, none⟩)]
/-- The search's memory. -/
structure SMem (w : World) (D : Nat) (u : Pl.Uni) (ws : List Pl.Need) (a o1 o2 : Option Addr) (c k1 k2 bc bp bu bs cb : Nat) : Prop where
  C : Bk w bc [.slice (some ⟨cb, 0, none⟩) u.length u.length]
  P : Bk w bp [.slice o1 ws.length k1, .slice o2 u.length k2]
  U : Bk w bu [.slice a u.length c]
  S : Bk w bs [.func (.func 16) #[] (capt bc bp bu bs)]
  pw : LQ 5 (Pd u) w (fun g => g < D) ws o1 k1
  pn : LQ 1 (P2 u) w (fun g => g < D) (Pl.nsAll u) o2 k2
  un : ∀ k (hk : k < u.length), ∃ b off a1 c1, a = some ⟨b, off, none⟩ ∧ b < D ∧ b < w.heap.size ∧ w.cell? ⟨b, off + k, none⟩ = some (.slice a1 u[k].length c1)
  d : D ≤ cb
  n1 : cb ≠ bc
  n2 : cb ≠ bp
  n3 : cb ≠ bu
  n4 : cb ≠ bs
theorem SMem.grown {w w' : World} {D : Nat} {u : Pl.Uni} {ws : List Pl.Need} {a o1 o2 : Option Addr} {c k1 k2 bc bp bu bs cb : Nat} (h : SMem w D u ws a o1 o2 c k1 k2 bc bp bu bs cb) (hg : w.grownBy w' (some cb)) : SMem w' D u ws a o1 o2 c k1 k2 bc bp bu bs cb :=
  ⟨h.C.grown hg (fun g e => by cases e; exact h.n1), h.P.grown hg (fun g e => by cases e; exact h.n2), h.U.grown hg (fun g e => by cases e; exact h.n3), h.S.grown hg (fun g e => by cases e; exact h.n4),
    h.pw.grown (cloD u) (by decide) hg (fun b hb e => by cases e; have := h.d; omega), h.pn.grown (clo2 u) (by decide) hg (fun b hb e => by cases e; have := h.d; omega),
    fun k hk => by
      obtain ⟨b, off, a1, c1, e, h1, h2, h3⟩ := h.un k hk
      exact ⟨b, off, a1, c1, e, h1, Nat.lt_of_lt_of_le h2 hg.size, (World.cell?_of_block (a := ⟨b, off + k, none⟩) (hg.block b h2 (fun e => by cases e; have := h.d; omega))).trans h3⟩, h.d, h.n1, h.n2, h.n3, h.n4⟩
theorem SMem.prob {w : World} {D : Nat} {u : Pl.Uni} {ws : List Pl.Need} {a o1 o2 : Option Addr} {c k1 k2 bc bp bu bs cb : Nat} (h : SMem w D u ws a o1 o2 c k1 k2 bc bp bu bs cb) : ProbIn w 0 u ws o1 k1 o2 k2 :=
  ⟨h.pw.mono (cloD u) (by decide) fun _ _ _ => Nat.zero_le _, h.pn.mono (clo2 u) (by decide) fun _ _ _ => Nat.zero_le _⟩
theorem Bk.sl {w : World} {cb n : Nat} {cs : List Int} (h : Bk w cb (intVals cs)) (hn : cs.length = n) (h6 : n ≤ 6) : Sl w (some ⟨cb, 0, none⟩) n n 1 (intVals cs) :=
  ⟨by rw [intVals_length, hn, Nat.mul_one], Nat.le_refl _, Nat.le_trans h6 (by decide), .inr ⟨cb, 0, rfl, h.lt, fun j v hv => by rw [Nat.zero_add]; exact h.c j hv⟩⟩
/-- What the search answers. -/
def SRes (w : World) (u : Pl.Uni) (ws : List Pl.Need) (cb : Nat) (ss : List Nat) (pre : List Int) (e : Ending) (w' : World) : Prop :=
  ∃ b cs', e = .returned (.bool b) ∧ w.grownBy w' (some cb) ∧ Bk w' cb (intVals cs') ∧ cs'.length = u.length ∧ cs'.take pre.length = pre ∧ Pl.After (Pl.solB u ws) ss pre cs' b
def PreOk (u : Pl.Uni) (pre : List Int) : Prop := ∀ k (h : k < pre.length) (g : k < u.length), -1 ≤ pre[k] ∧ pre[k] < (u[k].length : Int)
theorem PreOk.snoc {u : Pl.Uni} {pre : List Int} {n : Int} (h : PreOk u pre) (hp : pre.length < u.length) (h1 : -1 ≤ n) (h2 : n < (u[pre.length].length : Int)) : PreOk u (pre ++ [n]) := fun k hk hg => by
  by_cases c : k < pre.length
  · rw [List.getElem_append_left c]; exact h k c hg
  · have e : k = pre.length := by simp at hk; omega
    subst e
    rw [List.getElem_append_right (Nat.le_refl _)]
    simp only [Nat.sub_self, List.getElem_singleton]
    exact ⟨h1, h2⟩
theorem intVals_set (l : List Int) (k : Nat) (x : Int) : (intVals l).set k (.int .i64 x) = intVals (l.set k x) := by unfold intVals; rw [List.map_set]
/-- The search behind a package whose releases are gone through. -/
def Deep (u : Pl.Uni) (ws : List Pl.Need) (D : Nat) (a o1 o2 : Option Addr) (c k1 k2 bc bp bu bs cb i : Nat) (pre : List Int) : Prop :=
  ∀ (W : World) (cs : List Int), SMem W D u ws a o1 o2 c k1 k2 bc bp bu bs cb → Bk W cb (intVals cs) → cs.length = u.length → cs.take i = pre →
    Calls Tryz.prog 16 (#[.int .i64 i] ++ capt bc bp bu bs) W (SRes W u ws cb ((Pl.sizes u).drop i) pre)
set_option maxRecDepth 100000 in
set_option maxHeartbeats 4000000 in
theorem srch_end (u : Pl.Uni) (ws : List Pl.Need) (D : Nat) (a o1 o2 : Option Addr) (c k1 k2 bc bp bu bs cb : Nat) (pre : List Int) (ok : Pl.UniOk u) (okw : Pl.NeedsOk u.length ws) (hp : pre.length = u.length) (op : PreOk u pre) :
    Deep u ws D a o1 o2 c k1 k2 bc bp bu bs cb u.length pre := by
  intro w cs hM hV hl ht
  rw [List.take_of_length_le (by omega)] at ht
  subst ht
  have hu6 := ok.len
  have OC : Pl.ChOk u cs := ⟨hl, op⟩
  have CS := solved_any u ws cs o1 o2 (some ⟨cb, 0, none⟩) k1 k2 u.length 0 w hM.prob (by rw [hl]; exact hV.sl hl hu6) ok okw OC
  obtain ⟨b, hb⟩ : ∃ b, Pl.solB u ws cs = b := ⟨_, rfl⟩
  have AF := Lib.hid (show Pl.After (Pl.solB u ws) ((Pl.sizes u).drop u.length) cs cs b by rw [Pl.sizes_end (Nat.le_refl _)]; exact Pl.srch_end hb)
  rw [hb, hl] at CS
  replace CS := Lib.hid CS
  have M := Lib.hid hM
  obtain ⟨C_c, -, C_l⟩ := id hM.C
  obtain ⟨P_c, -, P_l⟩ := id hM.P
  have HP := Lib.hid hp
  clear hM ok okw op OC hp hb
  unfold capt
  go_enter Tryz.func16, Tryz.ntmps16
  go_wp2_with fail
  refine CS.out.mono ?_
  rintro e w1 ⟨rfl, hb⟩
  clear C_c C_l P_c P_l
  go_wp2_with fail
  go_ret
  exact ⟨b, cs, rfl, grownBy_some (grown_of_below hb (Nat.le_refl _)) _, hV.below hb hV.lt, hl, List.take_of_length_le (Nat.le_refl _), AF.out⟩
set_option maxRecDepth 100000 in
set_option maxHeartbeats 8000000 in
theorem srch_step (u : Pl.Uni) (ws : List Pl.Need) (D : Nat) (a o1 o2 : Option Addr) (c k1 k2 bc bp bu bs cb i : Nat) (pre : List Int) (ok : Pl.UniOk u) (hi : i < u.length) (hp : pre.length = i) (op : PreOk u pre)
    (IH : ∀ n : Int, PreOk u (pre ++ [n]) → Deep u ws D a o1 o2 c k1 k2 bc bp bu bs cb (i + 1) (pre ++ [n])) : Deep u ws D a o1 o2 c k1 k2 bc bp bu bs cb i pre := by
  intro w cs hM hV hl ht
  subst hp
  have hu6 := ok.len
  have hs4 := (ok.rels _ (List.getElem_mem hi)).len
  obtain ⟨res, hres⟩ : ∃ res, Pl.srch (Pl.solB u ws) ((Pl.sizes u).drop pre.length) pre = res := ⟨_, rfl⟩
  have TR := Pl.srch_try (Pl.solB u ws) u[pre.length].length ((Pl.sizes u).drop (pre.length + 1)) pre
  rw [← Pl.sizes_drop hi, hres] at TR
  have CL := Lib.hid (fun (n : Int) (h1 : -1 ≤ n) (h2 : n < (u[pre.length].length : Int)) => IH n (op.snoc hi h1 h2))
  have RS := Lib.hid hres
  have M := Lib.hid hM
  obtain ⟨f, hf⟩ : ∃ f, (fun n => Pl.srch (Pl.solB u ws) ((Pl.sizes u).drop (pre.length + 1)) (pre ++ [n])) = f := ⟨_, rfl⟩
  rw [hf] at TR
  have HF := Lib.hid hf
  replace TR := Lib.hid TR
  obtain ⟨bb, off, a1, c1, rfl, hbD, hbl, y0⟩ := hM.un _ hi
  obtain ⟨C_c, -, C_l⟩ := id hM.C
  obtain ⟨U_c, -, U_l⟩ := id hM.U
  have t1 : ((pre.length : Int) == (u.length : Int)) = false := by simp; omega
  have t1' : (pre.length == u.length) = false := by simp; omega
  have i1 : (pre.length : Int) < (u.length : Int) := by omega
  generalize u[pre.length].length = s at *
  have W1 : IntKind.i64.wrap ((s : Int) - 1) = (s : Int) - 1 := IntWalk.i64_in _ (by omega)
  clear hM ok op IH hf hres
  unfold capt
  go_enter Tryz.func16, Tryz.ntmps16
  go_wp2_with fail
  go_loopw [7] (fun n wr => ∃ (k : Nat) (cs1 : List Int), k ≤ s + 1 ∧ n = .int .i64 ((k : Int) - 2) ∧ w.grownBy wr (some cb) ∧ Bk wr cb (intVals cs1) ∧ cs1.length = u.length ∧ cs1.take pre.length = pre ∧ Hid (Pl.tryK f k = res)) (fun n _ => (intOf n + 2).toNat)
  case atStart => exact ⟨s + 1, cs, Nat.le_refl _, by first | go_num | (congr 1; omega), World.grownBy.refl _ _, hV, hl, ht, Lib.hid TR.out.symm⟩
  case round =>
    obtain ⟨k, cs1, hk, rfl, GB, V, hl1, ht1, TK⟩ := hrel
    clear C_c C_l U_c U_l y0 hV
    have M1 := Lib.hid (M.out.grown GB)
    obtain ⟨C_c, -, C_l⟩ := id M1.out.C
    obtain ⟨S_c, -, S_l⟩ := id M1.out.S
    by_cases h0 : 0 < k
    · obtain ⟨j, rfl⟩ : ∃ j, k = j + 1 := ⟨k - 1, by omega⟩
      have e2 : ((j + 1 : Nat) : Int) - 2 = (j : Int) - 1 := by omega
      rw [e2]
      have t3 : decide (-1 ≤ (j : Int) - 1) = true := decT (by omega)
      have t3' : decide ((j : Int) - 1 ≥ -1) = true := decT (by omega)
      have W2 : IntKind.i64.wrap ((pre.length : Int) + 1) = ((pre.length + 1 : Nat) : Int) := by rw [IntWalk.i64_in _ (by omega)]; omega
      have W3 : IntKind.i64.wrap ((j : Int) - 1 - 1) = (j : Int) - 2 := by rw [IntWalk.i64_in _ (by omega)]; omega
      have v0 := V.c pre.length (u := .int .i64 cs1[pre.length]) (intVals_get _ _ (by omega))
      have v1 := V.f pre.length
      have vl := V.lt
      have V2 := V.set (k := pre.length) (by rw [intVals_length]; omega) (.int .i64 ((j : Int) - 1))
      rw [intVals_set] at V2
      have GB2 := grownBy_setB GB pre.length (.int .i64 ((j : Int) - 1))
      have M2 := Lib.hid (M.out.grown GB2)
      have tk := Pl.take_set (cs := cs1) (i := pre.length) (by omega) ((j : Int) - 1)
      rw [ht1] at tk
      have CC := Lib.hid (CL.out ((j : Int) - 1) (by omega) (by omega) _ _ M2.out V2 (by rw [List.length_set]; exact hl1) tk)
      unfold capt at CC
      obtain ⟨S2_c, -, S2_l⟩ := id M2.out.S
      go_wp2_with fail
      refine CC.out.mono ?_
      rintro e w1 ⟨b, cs2, rfl, hg, V3, hl2, ht2, AF⟩
      have GB3 := grownBy_trans GB2 hg
      have ht3 := Pl.take_pre rfl (by simpa using ht2)
      replace AF := Lib.hid AF
      clear CC S2_c S2_l C_c C_l S_c S_l v0 v1 vl V2
      cases b with
      | true =>
        have E : Hid (Pl.After (Pl.solB u ws) ((Pl.sizes u).drop pre.length) pre cs2 true) := Lib.hid (by
          show _ = some cs2
          rw [RS.out, ← TK.out]
          exact Pl.tryK_some (by rw [← HF.out]; exact AF.out))
        go_wp2_with fail
        go_ret
        exact ⟨true, cs2, rfl, GB3, V3, hl2, ht3, E.out⟩
      | false =>
        have E : Hid (Pl.tryK f j = res) := Lib.hid (by
          rw [← TK.out]
          exact (Pl.tryK_none (by rw [← HF.out]; exact AF.out)).symm)
        go_wp2_with fail
        go_roundw
        case rel => exact ⟨j, cs2, by omega, by first | go_num | (congr 1; omega), GB3, V3, hl2, ht3, E⟩
        case measure => simp [intOf]; omega
    · obtain rfl : k = 0 := by omega
      have t3 : decide (-1 ≤ (((0 : Nat) : Int) - 2)) = false := decF (by omega)
      have t3' : decide ((((0 : Nat) : Int) - 2) ≥ -1) = false := decF (by omega)
      have E : Hid (Pl.After (Pl.solB u ws) ((Pl.sizes u).drop pre.length) pre cs1 false) := Lib.hid (by
        show _ = none
        rw [RS.out, ← TK.out]; rfl)
      go_wp2_with fail
      go_ret
      exact ⟨false, cs1, rfl, GB, V, hl1, ht1, E.out⟩
theorem srch_any (u : Pl.Uni) (ws : List Pl.Need) (D : Nat) (a o1 o2 : Option Addr) (c k1 k2 bc bp bu bs cb : Nat) (ok : Pl.UniOk u) (okw : Pl.NeedsOk u.length ws) :
    ∀ (m i : Nat) (pre : List Int), i + m = u.length → pre.length = i → PreOk u pre → Deep u ws D a o1 o2 c k1 k2 bc bp bu bs cb i pre
  | 0, i, pre, h, hp, op => by
    obtain rfl : i = u.length := by omega
    exact srch_end u ws D a o1 o2 c k1 k2 bc bp bu bs cb pre ok okw hp op
  | m + 1, i, pre, h, hp, op => srch_step u ws D a o1 o2 c k1 k2 bc bp bu bs cb i pre ok (by omega) hp op fun n h2 => srch_any u ws D a o1 o2 c k1 k2 bc bp bu bs cb ok okw m (i + 1) (pre ++ [n]) (by omega) (by simp [hp]) h2
end Go.Proofs.YtgngehfgcogceaaGreatDoor

end
