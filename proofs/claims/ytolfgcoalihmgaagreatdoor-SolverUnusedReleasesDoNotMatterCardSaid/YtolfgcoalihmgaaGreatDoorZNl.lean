/- The law SolverUnusedReleasesDoNotMatter: what it computes is true. -/
import Derived.Test.YtolfgcoalihmgaaGreatDoorZMOs
import Derived.Test.YtolfgcoalihmgaaGreatDoorZMPo
import Derived.Test.YtolfgcoalihmgaaGreatDoorZQm
namespace Go.Proofs.YtolfgcoalihmgaaGreatDoor
open Go.RowKit
set_option maxRecDepth 100000 in
theorem Tryz.tRel : ElemT Tryz.prog 73 75 5 72 := ⟨Tryz.underlying73, ⟨_, _, rfl, rfl, rfl, rfl, rfl⟩, by decide, by decide⟩
set_option maxRecDepth 100000 in
theorem Tryz.tPk : ElemT Tryz.prog 54 73 1 24 := ⟨Tryz.underlying54, ⟨_, _, rfl, rfl, rfl, rfl, rfl⟩, by decide, by decide⟩
set_option maxRecDepth 100000 in
theorem Tryz.tIntU : ElemT Tryz.prog 58 3 1 8 := ⟨Tryz.underlying58, ⟨_, _, rfl, rfl, rfl, rfl, rfl⟩, by decide, by decide⟩
abbrev PR (W0 : World) : World → (Nat → Prop) → Pl.Rel → List Value → Prop := fun _ _ r cs => RlIs W0 r cs
theorem cloR (W0 : World) : Clo 5 (PR W0) where
 len h := by obtain ⟨a, c, a', c', rfl, _⟩ := h; rfl
 one h := by
  obtain ⟨a, c, a', c', rfl, _⟩ := h
  intro u hu
  simp only [List.mem_cons, List.not_mem_nil, or_false] at hu
  rcases hu with rfl | rfl | rfl | rfl | rfl <;> rfl
 mono h _ := h
 grown h _ _ := h
abbrev PP (W0 : World) := cellL 5 (PR W0)
theorem cloPP (W0 : World) : Clo 1 (PP W0) := (cloR W0).cell (by decide)
theorem LQ.uni {W0 w : World} {Q : Nat → Prop} {u : Pl.Uni} {a : Option Addr} {c : Nat} (h : LQ 1 (PP W0) w Q u a c) (hb : Below W0.heap.size W0 w) : UIn w u a c := by
 obtain ⟨cs, h1, h2⟩ := h.mem
 refine ⟨cs, h1, h2.mono fun l cc hl => ?_⟩
 obtain ⟨a1, c1, e, g⟩ := hl
 obtain ⟨cs2, g1, g2⟩ := g.mem
 exact ⟨a1, c1, e, cs2, g1, g2.mono fun r c3 hr => RlIs.below hr hb nle⟩
theorem Solve_un (u : Pl.Uni) (n : Nat) (hn : u.length = n) (ws : List Pl.Need) (a b : Option Addr) (c d : Nat) (w : World) (h1 : UIn w u a c) (h2 : NsIn w ws b d) :
 Calls Tryz.prog 43 #[.agg #[.slice a n c], .slice b ws.length d] w (RSolve (Pl.wantsF u ws) (Pl.slvR u ws) w) := by
 subst hn
 exact Solve_any u ws a b c d w h1 h2
theorem own_free {w : World} {base : Nat} {e : TypeId} {size n cap g : Nat} {xs : List Value} (h : w.ownsRow base e size (.slice (some ⟨g, 0, none⟩) n cap) n xs) (i : Nat) : w.frozen? ⟨g, i, none⟩ = false := by
 rcases h.2 with ⟨a1, _⟩ | ⟨g', c, cur, a1, _, hh, _⟩
 · cases a1
 · injection a1 with a1 _ _
   injection a1 with a1
   injection a1 with a1
   subst a1
   simp [World.frozen?, hh]
theorem own_ptr {w : World} {B : Nat} {e : TypeId} {sz n c : Nat} {o : Option Addr} {xs : List Value} (h : w.ownsRow B e sz (.slice o n c) n xs) (h0 : 0 < n) : ∃ g, o = some ⟨g, 0, none⟩ ∧ B ≤ g ∧ g < w.heap.size := by
 rcases h.2 with ⟨_, k⟩ | ⟨g, cap, cur, k, hbg, hgg, _⟩
 · omega
 · injection k with k1 _ _
   exact ⟨g, k1, hbg, (Array.getElem?_eq_some_iff.1 hgg).1⟩
theorem Sl.own_set {w : World} {base : Nat} {e : TypeId} {n cap g : Nat} {l : List Int} (h : w.ownsRow base e 1 (.slice (some ⟨g, 0, none⟩) n cap) n (intVals l)) {p : Nat} (hp : p < l.length) (x : Int) : Sl (w.setCell ⟨g, p, none⟩ (.int .i64 x)) (some ⟨g, 0, none⟩) n cap 1 (intVals (l.set p x)) := by
 have hs := Sl.own h
 refine ⟨by rw [intVals_length, List.length_set, ← intVals_length]; exact hs.hl, hs.hcap, hs.hmax, ?_⟩
 have hlt := (h.lt g rfl).2
 refine .inr ⟨g, 0, rfl, by simpa using hlt, fun j v hv => ?_⟩
 rw [← intVals_set, List.getElem?_set] at hv
 rw [Nat.zero_add]
 by_cases c : p = j
 · subst c
   rw [if_pos rfl, if_pos (by rw [intVals_length]; exact hp)] at hv
   have h5 := h.cells (g := g) rfl p (.int .i64 l[p]) (intVals_get l p hp)
   rw [addr_add, Nat.zero_add] at h5
   rw [World.cell?_setCell_same _ _ _ h5]
   exact hv
 · rw [if_neg c] at hv
   rw [World.cell?_setCell_other _ _ _ _ (by intro e2; injection e2 with _ e3; omega)]
   have := h.cells (g := g) rfl j v hv
   rwa [addr_add, Nat.zero_add] at this
set_option maxRecDepth 100000 in
set_option maxHeartbeats 8000000 in
theorem unL_a (RG : RangesHold) (u : Pl.Uni) (ws : List Pl.Need) (p k : Int) (a b : Option Addr) (c d : Nat) (w : World) (h1 : UIn w u a c) (h2 : NsIn w ws b d) (E : Env w) (TB : Pl.inB p 0 ((u.length : Int) - 1) = false) :
 Calls Tryz.prog 10 #[.agg #[.slice a u.length c], .slice b ws.length d, .int .i64 p, .int .i64 k] w fun e w' => e = .returned (.bool true) ∧ Below w.heap.size w w' := by
 have HS := Hd (fun (W : World) (E : Env W) => solves_any RG W E)
 have hm1 := h1.len
 have W1 : IntKind.i64.wrap ((u.length : Int) - 1) = (u.length : Int) - 1 := IntWalk.i64_in _ (by omega)
 have H := Hd h1
 have K := Hd h2
 have H0 := Hd h1
 have K0 := Hd h2
 have HE := Hd E
 clear h1 h2 E RG
 go_enter Tryz.func10, Tryz.ntmps10
 have B0 := brl w
 go_wp2_with fail
 refine (HS.out _ (HE.out.bl (by go_grown))).mono ?_
 rintro e w1 ⟨rfl, hb⟩
 have B1 := bcm w hb
 have q1 : w.heap.size + 1 ≤ w1.heap.size := qle hb
 replace H := Hd ((H.out.al _).bl hb)
 replace K := Hd ((K.out.al _).bl hb)
 have X := ((bkn w.heap.size [.slice a u.length c] 56)).bw hb
 clear hb
 have s1 := B1.size
 have ⟨Xc, Xf, Xl⟩ := X
 go_wp2_with fail
 clear HS HE
 refine (vast_any u ws _ b c d _ (H.out) (K.out)).mono ?_
 rintro e w2 ⟨⟨g0, rfl, -⟩, hb⟩
 have B2 := bcm w hb
 have q2 : w1.heap.size ≤ w2.heap.size := qle hb
 replace H := Hd (H.out.bl hb)
 replace K := Hd (K.out.bl hb)
 replace X := X.bw hb
 clear hb
 have s2 := B2.size
 clear Xc Xf Xl
 have ⟨Xc, Xf, Xl⟩ := X
 cases g0 with
 | true =>
   go_wp2_with fail
   go_ret
   exact ⟨rfl, by go_grown⟩
 | false =>
   go_wp2_with fail
   refine (lin_any _ _ _ _).mono ?_
   rintro e w3 ⟨rfl, rfl⟩
   rw [TB]
   go_wp2_with fail
   go_ret
   exact ⟨rfl, by go_grown⟩
set_option maxRecDepth 100000 in
set_option maxHeartbeats 8000000 in
theorem unL_b (RG : RangesHold) (u : Pl.Uni) (ws : List Pl.Need) (p : Nat) (k : Int) (a b : Option Addr) (c d : Nat) (w : World) (h1 : UIn w u a c) (h2 : NsIn w ws b d) (E : Env w) (hp : p < u.length) (TC : Pl.inB k 0 ((u[p].length : Int) - 1) = false) :
 Calls Tryz.prog 10 #[.agg #[.slice a u.length c], .slice b ws.length d, .int .i64 p, .int .i64 k] w fun e w' => e = .returned (.bool true) ∧ Below w.heap.size w w' := by
 have TB : Pl.inB (p : Int) 0 ((u.length : Int) - 1) = true := Pl.inB_true.2 (by have := h1.len; omega)
 have hp2 : (p : Int) < (u.length : Int) := by omega
 have hml := PkAt_len h1 hp
 have W2 : IntKind.i64.wrap ((u[p].length : Int) - 1) = (u[p].length : Int) - 1 := IntWalk.i64_in _ (by omega)
 obtain ⟨bu, fu, rfl, hbu, hat⟩ := h1.at (by omega)
 obtain ⟨a5, c5, I0⟩ := hat p hp
 have Z0 := Hd I0.e0
 clear hat I0
 have HS := Hd (fun (W : World) (E : Env W) => solves_any RG W E)
 have hm1 := h1.len
 have W1 : IntKind.i64.wrap ((u.length : Int) - 1) = (u.length : Int) - 1 := IntWalk.i64_in _ (by omega)
 have H := Hd h1
 have K := Hd h2
 have H0 := Hd h1
 have K0 := Hd h2
 have HE := Hd E
 clear h1 h2 E RG
 go_enter Tryz.func10, Tryz.ntmps10
 have B0 := brl w
 go_wp2_with fail
 refine (HS.out _ (HE.out.bl (by go_grown))).mono ?_
 rintro e w1 ⟨rfl, hb⟩
 have B1 := bcm w hb
 have q1 : w.heap.size + 1 ≤ w1.heap.size := qle hb
 replace H := Hd ((H.out.al _).bl hb)
 replace K := Hd ((K.out.al _).bl hb)
 have X := ((bkn w.heap.size [.slice (some ⟨bu, fu, none⟩) u.length c] 56)).bw hb
 clear hb
 have s1 := B1.size
 have ⟨Xc, Xf, Xl⟩ := X
 go_wp2_with fail
 clear HS HE
 refine (vast_any u ws _ b c d _ (H.out) (K.out)).mono ?_
 rintro e w2 ⟨⟨g0, rfl, -⟩, hb⟩
 have B2 := bcm w hb
 have q2 : w1.heap.size ≤ w2.heap.size := qle hb
 replace H := Hd (H.out.bl hb)
 replace K := Hd (K.out.bl hb)
 replace X := X.bw hb
 clear hb
 have s2 := B2.size
 clear Xc Xf Xl
 have ⟨Xc, Xf, Xl⟩ := X
 cases g0 with
 | true =>
   go_wp2_with fail
   go_ret
   exact ⟨rfl, by go_grown⟩
 | false =>
   go_wp2_with fail
   refine (lin_any _ _ _ _).mono ?_
   rintro e w3 ⟨rfl, rfl⟩
   rw [TB]
   have z0 := (B2.cell (p := ⟨bu, fu + p, none⟩) hbu).trans Z0.out
   have hbw : bu < w2.heap.size := by omega
   generalize hnn : u[p].length = nn at *
   go_wp2_with fail
   refine (lin_any _ _ _ _).mono ?_
   rintro e w3 ⟨rfl, rfl⟩
   rw [TC]
   go_wp2_with fail
   go_ret
   exact ⟨rfl, by go_grown⟩
set_option maxRecDepth 100000 in
set_option maxHeartbeats 8000000 in
theorem unL_c (RG : RangesHold) (u : Pl.Uni) (ws : List Pl.Need) (p k : Nat) (a b : Option Addr) (c d : Nat) (w : World) (h1 : UIn w u a c) (h2 : NsIn w ws b d) (E : Env w) (hp : p < u.length) (hk : k < u[p].length) (hs : Pl.slvR u ws = none) :
 Calls Tryz.prog 10 #[.agg #[.slice a u.length c], .slice b ws.length d, .int .i64 p, .int .i64 k] w fun e w' => e = .returned (.bool true) ∧ Below w.heap.size w w' := by
 have TC : Pl.inB (k : Int) 0 ((u[p].length : Int) - 1) = true := Pl.inB_true.2 (by have := PkAt_len h1 hp; omega)
 have CS := Hd (fun (W : World) (g1 : UIn W u a c) (g2 : NsIn W ws b d) => Solve_any u ws a b c d W g1 g2)
 rw [hs] at CS
 obtain ⟨f1, f2, hf⟩ : ∃ f1 f2, Pl.wantsF u ws = (f1, f2) := ⟨_, _, rfl⟩
 rw [hf] at CS
 clear hf hs
 have TB : Pl.inB (p : Int) 0 ((u.length : Int) - 1) = true := Pl.inB_true.2 (by have := h1.len; omega)
 have hp2 : (p : Int) < (u.length : Int) := by omega
 have hml := PkAt_len h1 hp
 have W2 : IntKind.i64.wrap ((u[p].length : Int) - 1) = (u[p].length : Int) - 1 := IntWalk.i64_in _ (by omega)
 obtain ⟨bu, fu, rfl, hbu, hat⟩ := h1.at (by omega)
 obtain ⟨a5, c5, I0⟩ := hat p hp
 have Z0 := Hd I0.e0
 clear hat I0
 have HS := Hd (fun (W : World) (E : Env W) => solves_any RG W E)
 have hm1 := h1.len
 have W1 : IntKind.i64.wrap ((u.length : Int) - 1) = (u.length : Int) - 1 := IntWalk.i64_in _ (by omega)
 have H := Hd h1
 have K := Hd h2
 have H0 := Hd h1
 have K0 := Hd h2
 have HE := Hd E
 clear h1 h2 E RG
 go_enter Tryz.func10, Tryz.ntmps10
 have B0 := brl w
 go_wp2_with fail
 refine (HS.out _ (HE.out.bl (by go_grown))).mono ?_
 rintro e w1 ⟨rfl, hb⟩
 have B1 := bcm w hb
 have q1 : w.heap.size + 1 ≤ w1.heap.size := qle hb
 replace H := Hd ((H.out.al _).bl hb)
 replace K := Hd ((K.out.al _).bl hb)
 have X := ((bkn w.heap.size [.slice (some ⟨bu, fu, none⟩) u.length c] 56)).bw hb
 clear hb
 have s1 := B1.size
 have ⟨Xc, Xf, Xl⟩ := X
 go_wp2_with fail
 clear HS HE
 refine (vast_any u ws _ b c d _ (H.out) (K.out)).mono ?_
 rintro e w2 ⟨⟨g0, rfl, -⟩, hb⟩
 have B2 := bcm w hb
 have q2 : w1.heap.size ≤ w2.heap.size := qle hb
 replace H := Hd (H.out.bl hb)
 replace K := Hd (K.out.bl hb)
 replace X := X.bw hb
 clear hb
 have s2 := B2.size
 clear Xc Xf Xl
 have ⟨Xc, Xf, Xl⟩ := X
 cases g0 with
 | true =>
   go_wp2_with fail
   go_ret
   exact ⟨rfl, by go_grown⟩
 | false =>
   go_wp2_with fail
   refine (lin_any _ _ _ _).mono ?_
   rintro e w3 ⟨rfl, rfl⟩
   rw [TB]
   have z0 := (B2.cell (p := ⟨bu, fu + p, none⟩) hbu).trans Z0.out
   have hbw : bu < w2.heap.size := by omega
   generalize hnn : u[p].length = nn at *
   go_wp2_with fail
   refine (lin_any _ _ _ _).mono ?_
   rintro e w3 ⟨rfl, rfl⟩
   rw [TC]
   go_wp2_with fail
   refine (CS.out _ (H.out) (K.out)).mono ?_
   rintro e w3 ⟨o1, m1, rfl, -, hb⟩
   have B3 := bcm w hb
   have q3 : w2.heap.size ≤ w3.heap.size := qle hb
   replace H := Hd (H.out.bl hb)
   replace K := Hd (K.out.bl hb)
   replace X := X.bw hb
   clear hb
   have s3 := B3.size
   clear Xc Xf Xl
   have ⟨Xc, Xf, Xl⟩ := X
   by_cases hf : f1 = 0
   · subst hf
     go_wp2_with fail
     go_ret
     exact ⟨rfl, by go_grown⟩
   · have u1 := bneT hf
     have u2 := beqF hf
     go_wp2_with fail
     go_ret
     exact ⟨rfl, by go_grown⟩
set_option maxRecDepth 100000 in
set_option maxHeartbeats 8000000 in
theorem unL_d (RG : RangesHold) (u : Pl.Uni) (ws : List Pl.Need) (p k : Nat) (a b : Option Addr) (c d : Nat) (w : World) (h1 : UIn w u a c) (h2 : NsIn w ws b d) (E : Env w) (hp : p < u.length) (hk : k < u[p].length) (l : List Int) (hs : Pl.slvR u ws = some l) (he : Pl.numAt l p = k) :
 Calls Tryz.prog 10 #[.agg #[.slice a u.length c], .slice b ws.length d, .int .i64 p, .int .i64 k] w fun e w' => e = .returned (.bool true) ∧ Below w.heap.size w w' := by
 have TC : Pl.inB (k : Int) 0 ((u[p].length : Int) - 1) = true := Pl.inB_true.2 (by have := PkAt_len h1 hp; omega)
 have CS := Hd (fun (W : World) (g1 : UIn W u a c) (g2 : NsIn W ws b d) => Solve_any u ws a b c d W g1 g2)
 have hz : Pl.wantsF u ws = (0, 0) := by
  by_cases h : (Pl.wantsF u ws).1 = 0
  · exact (Pl.wantsF_ne h).1
  · unfold Pl.slvR at hs; rw [if_pos h] at hs; cases hs
 have hb0 : Pl.best u ws = some l := by unfold Pl.slvR at hs; rw [if_neg (by rw [hz]; decide)] at hs; exact hs
 obtain ⟨ou, on⟩ := Pl.wantsF_ok.1 (show (Pl.wantsF u ws).1 = 0 by rw [hz])
 have hu6 := ou.len
 have hln : l.length = u.length := ((Pl.best_some hu6).1 hb0).ok.len
 rw [hs, hz] at CS
 unfold RSolve at CS
 simp only [Option.getD_some, Option.isSome_some, fltV] at CS
 have HLN := Hd hln
 have hpl : p < l.length := by omega
 rw [Pl.numAt_eq hpl] at he
 clear hs hz hb0 ou on hln
 have TB : Pl.inB (p : Int) 0 ((u.length : Int) - 1) = true := Pl.inB_true.2 (by have := h1.len; omega)
 have hp2 : (p : Int) < (u.length : Int) := by omega
 have hml := PkAt_len h1 hp
 have W2 : IntKind.i64.wrap ((u[p].length : Int) - 1) = (u[p].length : Int) - 1 := IntWalk.i64_in _ (by omega)
 obtain ⟨bu, fu, rfl, hbu, hat⟩ := h1.at (by omega)
 obtain ⟨a5, c5, I0⟩ := hat p hp
 have Z0 := Hd I0.e0
 clear hat I0
 have HS := Hd (fun (W : World) (E : Env W) => solves_any RG W E)
 have hm1 := h1.len
 have W1 : IntKind.i64.wrap ((u.length : Int) - 1) = (u.length : Int) - 1 := IntWalk.i64_in _ (by omega)
 have H := Hd h1
 have K := Hd h2
 have H0 := Hd h1
 have K0 := Hd h2
 have HE := Hd E
 clear h1 h2 E RG
 go_enter Tryz.func10, Tryz.ntmps10
 have B0 := brl w
 go_wp2_with fail
 refine (HS.out _ (HE.out.bl (by go_grown))).mono ?_
 rintro e w1 ⟨rfl, hb⟩
 have B1 := bcm w hb
 have q1 : w.heap.size + 1 ≤ w1.heap.size := qle hb
 replace H := Hd ((H.out.al _).bl hb)
 replace K := Hd ((K.out.al _).bl hb)
 have X := ((bkn w.heap.size [.slice (some ⟨bu, fu, none⟩) u.length c] 56)).bw hb
 clear hb
 have s1 := B1.size
 have ⟨Xc, Xf, Xl⟩ := X
 go_wp2_with fail
 clear HS HE
 refine (vast_any u ws _ b c d _ (H.out) (K.out)).mono ?_
 rintro e w2 ⟨⟨g0, rfl, -⟩, hb⟩
 have B2 := bcm w hb
 have q2 : w1.heap.size ≤ w2.heap.size := qle hb
 replace H := Hd (H.out.bl hb)
 replace K := Hd (K.out.bl hb)
 replace X := X.bw hb
 clear hb
 have s2 := B2.size
 clear Xc Xf Xl
 have ⟨Xc, Xf, Xl⟩ := X
 cases g0 with
 | true =>
   go_wp2_with fail
   go_ret
   exact ⟨rfl, by go_grown⟩
 | false =>
   go_wp2_with fail
   refine (lin_any _ _ _ _).mono ?_
   rintro e w3 ⟨rfl, rfl⟩
   rw [TB]
   have z0 := (B2.cell (p := ⟨bu, fu + p, none⟩) hbu).trans Z0.out
   have hbw : bu < w2.heap.size := by omega
   generalize hnn : u[p].length = nn at *
   go_wp2_with fail
   refine (lin_any _ _ _ _).mono ?_
   rintro e w3 ⟨rfl, rfl⟩
   rw [TC]
   go_wp2_with fail
   refine (CS.out _ (H.out) (K.out)).mono ?_
   rintro e w3 ⟨o1, m1, rfl, SS, hb⟩
   have B3 := bcm w hb
   have q3 : w2.heap.size ≤ w3.heap.size := qle hb
   replace H := Hd (H.out.bl hb)
   replace K := Hd (K.out.bl hb)
   replace X := X.bw hb
   clear hb
   have s3 := B3.size
   clear Xc Xf Xl
   have ⟨Xc, Xf, Xl⟩ := X
   have te : ((l.length : Int) != (u.length : Int)) = false := by have := HLN.out; simp; omega
   have te2 : (l.length != u.length) = false := by have := HLN.out; simp; omega
   have pl2 : (p : Int) < (l.length : Int) := by omega
   obtain ⟨b1, f1, rfl, hb1, hat1⟩ := Sl.cellsAt SS (by omega)
   have y0 := hat1 p hpl
   rw [he] at y0
   clear hat1 SS
   go_wp2_with fail
   go_ret
   exact ⟨rfl, by go_grown⟩
set_option maxRecDepth 100000 in
set_option maxHeartbeats 8000000 in
theorem unL_e (RG : RangesHold) (u : Pl.Uni) (ws : List Pl.Need) (p k : Nat) (a b : Option Addr) (c d : Nat) (w : World) (h1 : UIn w u a c) (h2 : NsIn w ws b d) (E : Env w) (hp : p < u.length) (hk : k < u[p].length) (l : List Int) (hs : Pl.slvR u ws = some l) (he : Pl.numAt l p ≠ k) :
 Calls Tryz.prog 10 #[.agg #[.slice a u.length c], .slice b ws.length d, .int .i64 p, .int .i64 k] w fun e w' => e = .returned (.bool true) ∧ Below w.heap.size w w' := by
 have TC : Pl.inB (k : Int) 0 ((u[p].length : Int) - 1) = true := Pl.inB_true.2 (by have := PkAt_len h1 hp; omega)
 have CS := Hd (fun (W : World) (g1 : UIn W u a c) (g2 : NsIn W ws b d) => Solve_any u ws a b c d W g1 g2)
 have hz : Pl.wantsF u ws = (0, 0) := by
  by_cases h : (Pl.wantsF u ws).1 = 0
  · exact (Pl.wantsF_ne h).1
  · unfold Pl.slvR at hs; rw [if_pos h] at hs; cases hs
 have hb0 : Pl.best u ws = some l := by unfold Pl.slvR at hs; rw [if_neg (by rw [hz]; decide)] at hs; exact hs
 obtain ⟨ou, on⟩ := Pl.wantsF_ok.1 (show (Pl.wantsF u ws).1 = 0 by rw [hz])
 have hu6 := ou.len
 have hln : l.length = u.length := ((Pl.best_some hu6).1 hb0).ok.len
 rw [hs, hz] at CS
 unfold RSolve at CS
 simp only [Option.getD_some, Option.isSome_some, fltV] at CS
 have hpl : p < l.length := by omega
 have DN := Pl.best_less hu6 hp hk hb0 he
 have hw2 : Pl.wantsF (Pl.less1 u p k) ws = (0, 0) := (Pl.wantsF_ne (Pl.wantsF_ok.2 ⟨Pl.uni_less ou p k, by rw [Pl.less1_len]; exact on⟩)).1
 have hs2 : Pl.slvR (Pl.less1 u p k) ws = some (Pl.dnS p k l) := by unfold Pl.slvR; rw [if_neg (by rw [hw2]; decide)]; exact DN
 have CS2 := Hd (fun (W : World) (a : Option Addr) (c : Nat) (g1 : UIn W (Pl.less1 u p k) a c) (g2 : NsIn W ws b d) => Solve_un (Pl.less1 u p k) u.length (Pl.less1_len u p k) ws a b c d W g1 g2)
 rw [hw2, hs2] at CS2
 unfold RSolve at CS2
 simp only [Option.getD_some, Option.isSome_some, fltV] at CS2
 have hdl : (Pl.dnS p k l).length = l.length := List.length_set ..
 have CI := Hd (fun (W : World) (p1 q1 : Option Addr) (s t : Nat) (g1 : Sl W p1 l.length s 1 (intVals (Pl.dnS p k l))) (g2 : Sl W q1 l.length t 1 (intVals (Pl.dnS p k l))) => intsEq_any (Pl.dnS p k l) (Pl.dnS p k l) p1 q1 s t W (by rw [hdl]; exact g1) (by rw [hdl]; exact g2))
 rw [show Pl.intsB (Pl.dnS p k l) (Pl.dnS p k l) = true from decide_eq_true rfl, hdl] at CI
 rw [hdl] at CS2
 have DNS : Hid (Pl.dnS p k l = l.set p (Pl.dnI k l[p])) := Hd (by unfold Pl.dnS; rw [Pl.numAt_eq hpl])
 have OU := Hd ou
 have HLN := Hd hln
 have TKE := Hd (fun (i : Nat) (hi : i < u.length) => Pl.less1_take u hp k i hi)
 have TKN := Hd (show (Pl.less1 u p k).take u.length = Pl.less1 u p k from by rw [← Pl.less1_len u p k]; exact List.take_length)
 rw [Pl.numAt_eq hpl] at he
 obtain ⟨y, hy⟩ : ∃ y, l[p] = y := ⟨_, rfl⟩
 have HY := Hd hy
 rw [hy] at he
 have te3 : (y == (k : Int)) = false := beq_eq_false_iff_ne.2 he
 have te4 : (y = (k : Int)) = False := eq_false he
 have hyb : -1 ≤ y ∧ y < 9223372036854775807 := by
  have h := ((Pl.best_some hu6).1 hb0).ok.at' p hpl hp
  rw [hy] at h
  have := PkAt_len h1 hp
  omega
 have hup4 := (ou.rels _ (List.getElem_mem hp)).len
 generalize Pl.dnS p k l = dl at *
 clear hs hz hb0 ou on hln DN hw2 hs2 hdl hy he
 have TB : Pl.inB (p : Int) 0 ((u.length : Int) - 1) = true := Pl.inB_true.2 (by have := h1.len; omega)
 have hp2 : (p : Int) < (u.length : Int) := by omega
 have hml := PkAt_len h1 hp
 have W2 : IntKind.i64.wrap ((u[p].length : Int) - 1) = (u[p].length : Int) - 1 := IntWalk.i64_in _ (by omega)
 obtain ⟨bu, fu, rfl, hbu, hat⟩ := h1.at (by omega)
 obtain ⟨a5, c5, I0⟩ := hat p hp
 have Z0 := Hd I0.e0
 clear hat I0
 have HS := Hd (fun (W : World) (E : Env W) => solves_any RG W E)
 have hm1 := h1.len
 have W1 : IntKind.i64.wrap ((u.length : Int) - 1) = (u.length : Int) - 1 := IntWalk.i64_in _ (by omega)
 have H := Hd h1
 have K := Hd h2
 have H0 := Hd h1
 have K0 := Hd h2
 have HE := Hd E
 clear h1 h2 E RG
 go_enter Tryz.func10, Tryz.ntmps10
 have B0 := brl w
 go_wp2_with fail
 refine (HS.out _ (HE.out.bl (by go_grown))).mono ?_
 rintro e w1 ⟨rfl, hb⟩
 have B1 := bcm w hb
 have q1 : w.heap.size + 1 ≤ w1.heap.size := qle hb
 replace H := Hd ((H.out.al _).bl hb)
 replace K := Hd ((K.out.al _).bl hb)
 have X := ((bkn w.heap.size [.slice (some ⟨bu, fu, none⟩) u.length c] 56)).bw hb
 clear hb
 have s1 := B1.size
 have ⟨Xc, Xf, Xl⟩ := X
 go_wp2_with fail
 clear HS HE
 refine (vast_any u ws _ b c d _ (H.out) (K.out)).mono ?_
 rintro e w2 ⟨⟨g0, rfl, -⟩, hb⟩
 have B2 := bcm w hb
 have q2 : w1.heap.size ≤ w2.heap.size := qle hb
 replace H := Hd (H.out.bl hb)
 replace K := Hd (K.out.bl hb)
 replace X := X.bw hb
 clear hb
 have s2 := B2.size
 clear Xc Xf Xl
 have ⟨Xc, Xf, Xl⟩ := X
 cases g0 with
 | true =>
   go_wp2_with fail
   go_ret
   exact ⟨rfl, by go_grown⟩
 | false =>
   go_wp2_with fail
   refine (lin_any _ _ _ _).mono ?_
   rintro e w3 ⟨rfl, rfl⟩
   rw [TB]
   have z0 := (B2.cell (p := ⟨bu, fu + p, none⟩) hbu).trans Z0.out
   have hbw : bu < w2.heap.size := by omega
   generalize hnn : u[p].length = nn at *
   go_wp2_with fail
   refine (lin_any _ _ _ _).mono ?_
   rintro e w3 ⟨rfl, rfl⟩
   rw [TC]
   clear hnn
   go_wp2_with fail
   refine (CS.out _ (H.out) (K.out)).mono ?_
   rintro e w3 ⟨o1, m1, rfl, SS, hb⟩
   have B3 := bcm w hb
   have q3 : w2.heap.size ≤ w3.heap.size := qle hb
   replace H := Hd (H.out.bl hb)
   replace K := Hd (K.out.bl hb)
   replace X := X.bw hb
   clear hb
   have s3 := B3.size
   clear Xc Xf Xl
   have ⟨Xc, Xf, Xl⟩ := X
   have te : ((l.length : Int) != (u.length : Int)) = false := by have := HLN.out; simp; omega
   have te2 : (l.length != u.length) = false := by have := HLN.out; simp; omega
   have pl2 : (p : Int) < (l.length : Int) := by omega
   obtain ⟨b1, f1, rfl, hb1, hat1⟩ := Sl.cellsAt SS (by omega)
   have y0 := hat1 p hpl
   rw [HY.out] at y0
   replace SS := Hd SS
   clear hat1
   go_wp2_with fail
   clear y0
   go_loopw [13] (fun i wv => ∃ m : Nat, m ≤ u.length ∧ i = .int .i64 m ∧ (∃ o c', Bk wv (w3.heap.size + 1) [.slice o m c'] ∧ GOwn 73 1 (PP w) wv (w3.heap.size + 2) (fun b => w3.heap.size + 2 ≤ b) ((Pl.less1 u p k).take m) (.slice o m c') m) ∧ Below w3.heap.size w3 wv ∧ w3.heap.size + 2 ≤ wv.heap.size) (fun i _ => u.length - (intOf i).toNat)
   case atStart => exact ⟨0, Nat.zero_le _, rfl, ⟨none, 0, Bk.new (cs := [.slice none 0 0]) _ _ (by simp), GOwn.nil _ _ _⟩, by go_grown, by simp⟩
   case round =>
    obtain ⟨i, hi, rfl, ⟨o, c', PB, OW⟩, BW, qw⟩ := hrel
    obtain ⟨v0, rfl⟩ : ∃ W, W = wr := ⟨_, rfl⟩
    clear Xc Xf Xl
    replace X := X.below BW (by omega)
    have BV0 : Below w.heap.size w v0 := bcall B3 BW (by omega)
    have sv0 := BV0.size
    have ⟨Xc, Xf, Xl⟩ := X
    have ⟨PBc, PBf, PBl⟩ := PB
    by_cases hlt : i < u.length
    · have t1 : decide ((i : Int) < (u.length : Int)) = true := decT (by omega)
      have t1' : decide (i < u.length) = true := decT hlt
      have i1 : (i : Int) < (u.length : Int) := by omega
      obtain ⟨bu', fu', e', hbu', hatu⟩ := H0.out.at (by omega)
      cases e'
      obtain ⟨a2, c2, I0⟩ := hatu i hlt
      have y1 := (BV0.cell (p := ⟨bu, fu + i, none⟩) hbu).trans I0.e0
      have hbv : bu < v0.heap.size := by omega
      have RS := Hd I0.rs
      have J0 := Hd I0.e0
      have hl4 := (OU.out.rels _ (List.getElem_mem hlt)).len
      have TK := Hd (TKE.out i hlt)
      obtain ⟨bi, hbi⟩ : ∃ bi, decide (p = i) = bi := ⟨_, rfl⟩
      rw [hbi] at TK
      clear hatu I0
      generalize u[i] = pl at *
      go_wp2_with fail
      clear Xc Xf Xl PBc PBf PBl y1 hbv
      go_loopw [14, 15] (fun v j wv => ∃ m : Nat, m ≤ pl.length ∧ j = .int .i64 m ∧ (∃ ov cv nv, v = .slice ov nv cv ∧ nv = (Pl.flt bi k m pl).length ∧ GOwn 75 5 (PR w) wv v0.heap.size (fun b => v0.heap.size ≤ b) (Pl.flt bi k m pl) (.slice ov nv cv) nv) ∧ Below v0.heap.size v0 wv) (fun _ j _ => pl.length - (intOf j).toNat)
      case atStart => exact ⟨0, Nat.zero_le _, rfl, ⟨none, 0, 0, rfl, by rw [Pl.flt_zero]; rfl, by rw [Pl.flt_zero]; exact GOwn.nil _ _ _⟩, Below.refl _ _⟩
      case round =>
       obtain ⟨m, hm, rfl, ⟨ov, cv, nv, rfl, hnv, IW⟩, BV⟩ := hrel
       have HNV := Hd hnv
       have qv := BV.size
       have X3 := X.below BV (by omega)
       have PB3 := PB.below BV (by omega)
       have B3 : Below w.heap.size w wr := bcall BV0 BV (by omega)
       have B31 : Below w3.heap.size w3 wr := bcall BW BV (by omega)
       have s3 := B3.size
       have ⟨Xc, Xf, Xl⟩ := X3
       have ⟨PBc, PBf, PBl⟩ := PB3
       have y1 := (B3.cell (p := ⟨bu, fu + i, none⟩) hbu).trans J0.out
       have hbv : bu < wr.heap.size := by omega
       have hfl : nv ≤ 4 := by have := Pl.flt_len bi k m pl; omega
       clear hnv
       by_cases hlt3 : m < pl.length
       · have t6 : decide ((m : Int) < (pl.length : Int)) = true := decT (by omega)
         have t7 : decide (m < pl.length) = true := decT hlt3
         have i3 : (m : Int) < (pl.length : Int) := by omega
         obtain ⟨br, offr, rfl, hltr, hatr⟩ := RS.out.at (by omega)
         obtain ⟨a3, c3, a4, c4, I⟩ := hatr m hlt3
         by_cases hskip : p = i ∧ m = k
         · obtain ⟨hp1, hm1'⟩ := hskip
           have bt : bi = true := by rw [← hbi]; exact decide_eq_true hp1
           have n1 : ((i : Int) != (p : Int)) = false := by simp; omega
           have n2 : ((m : Int) != (k : Int)) = false := by simp; omega
           have n1' : (i != p) = false := by simp; omega
           have n2' : (m != k) = false := by simp; omega
           have E : Hid (Pl.flt bi k (m + 1) pl = Pl.flt bi k m pl) := Hd (by subst bt hm1'; exact Pl.flt_skip hlt3)
           clear hatr I
           go_wp2_with fail
           go_roundw
           case rel => exact ⟨m + 1, hlt3, by go_num, ⟨ov, cv, nv, rfl, by rw [E.out]; exact HNV.out, by rw [E.out]; exact IW⟩, BV⟩
           case measure => simp [intOf]; omega
         · have hadd : bi = false ∨ m ≠ k := by
            by_cases h : p = i
            · exact .inr (fun h2 => hskip ⟨h, h2⟩)
            · left; rw [← hbi]; exact decide_eq_false h
           have E := Hd (Pl.flt_add hlt3 hadd)
           have ⟨f0, f1', f2, f3, f4, VI, NI⟩ := I
           have RI : RlIs w pl[m] [.int .i64 pl[m].v.maj, .int .i64 pl[m].v.min, .int .i64 pl[m].v.pat, .slice a3 pl[m].v.pre.length c3, .slice a4 pl[m].ns.length c4] := ⟨a3, c3, a4, c4, rfl, VI, NI⟩
           obtain ⟨f0, f1', f2, f3, f4, -, -⟩ := I.below B3 hltr nle
           have hbr : br < wr.heap.size := by omega
           have PE : PR w wr (fun b => v0.heap.size ≤ b ∧ some b ≠ (Value.slice ov nv cv).ownBlock) pl[m] [.int .i64 pl[m].v.maj, .int .i64 pl[m].v.min, .int .i64 pl[m].v.pat, .slice a3 pl[m].v.pre.length c3, .slice a4 pl[m].ns.length c4] := RI
           have hnx := Hd (show (Pl.flt bi k (m + 1) pl).length = nv + 1 from by rw [E.out, List.length_append, ← HNV.out]; rfl)
           clear hatr I VI NI RI
           generalize pl[m] = rl at *
           by_cases hpi : i = p
           · have hmk : m ≠ k := fun h2 => hskip ⟨hpi.symm, h2⟩
             have n1 : ((i : Int) != (p : Int)) = false := by simp; omega
             have n1' : (i != p) = false := by simp; omega
             have n2 : ((m : Int) != (k : Int)) = true := by simp; omega
             have n2' : (m != k) = true := by simp; omega
             clear hpi hmk hskip
             go_wp2_with (at_builtin; go_loud (refine ap1g (cloR w) Tryz.tRel (by rfl) (by rfl) (by rfl) IW (c := 1) (E := [.int .i64 rl.v.maj, .int .i64 rl.v.min, .int .i64 rl.v.pat, .slice a3 rl.v.pre.length c3, .slice a4 rl.ns.length c4]) (by rfl) PE (by omega) (by omega) ?_); intro v7 w7 NEW hg7 hb7 hs7; have HB7 : Below v0.heap.size v0 w7 := bcall BV hb7 (by omega); obtain ⟨o7, c7, rfl⟩ := NEW.slice; clear hg7 hb7 IW PE)
             rw [← E.out] at NEW
             go_roundw
             case rel => exact ⟨m + 1, hlt3, by go_num, ⟨o7, c7, nv + 1, rfl, hnx.out.symm, NEW⟩, HB7⟩
             case measure => simp [intOf]; omega
           · have n1 : ((i : Int) != (p : Int)) = true := by simp; omega
             have n1' : (i != p) = true := by simp; omega
             go_wp2_with (at_builtin; go_loud (refine ap1g (cloR w) Tryz.tRel (by rfl) (by rfl) (by rfl) IW (c := 1) (E := [.int .i64 rl.v.maj, .int .i64 rl.v.min, .int .i64 rl.v.pat, .slice a3 rl.v.pre.length c3, .slice a4 rl.ns.length c4]) (by rfl) PE (by omega) (by omega) ?_); intro v7 w7 NEW hg7 hb7 hs7; have HB7 : Below v0.heap.size v0 w7 := bcall BV hb7 (by omega); obtain ⟨o7, c7, rfl⟩ := NEW.slice; clear hg7 hb7 IW PE)
             rw [← E.out] at NEW
             go_roundw
             case rel => exact ⟨m + 1, hlt3, by go_num, ⟨o7, c7, nv + 1, rfl, hnx.out.symm, NEW⟩, HB7⟩
             case measure => simp [intOf]; omega
       · have t6 : decide ((m : Int) < (pl.length : Int)) = false := decF (by omega)
         have t7 : decide (m < pl.length) = false := decF (by omega)
         have em : m = pl.length := by omega
         subst em
         have how := OW.lt
         have OW2 := OW.below (cloPP w) BV nle
         have PE : PP w wr (fun b => w3.heap.size + 2 ≤ b ∧ some b ≠ (Value.slice o i c').ownBlock) (Pl.flt bi k pl.length pl) [.slice ov nv cv] := ⟨ov, cv, by rw [HNV.out], by
          have hIW := IW
          rw [HNV.out] at hIW
          refine (hIW.lq (cloR w) (by decide) (fun b h _ => ⟨by omega, fun e => by have := how b e.symm; omega⟩) (fun b h _ => ⟨by omega, fun e => by have := how b e.symm; omega⟩))⟩
         go_wp2_with (at_builtin; go_loud (refine ap1g (cloPP w) Tryz.tPk (by rfl) (by rfl) (by rfl) OW2 (c := 1) (E := [.slice ov nv cv]) (by rfl) PE (by omega) (by omega) ?_); intro v7 w7 NEW hg7 hb7 hs7; have hq7 := hg7.size; have HB7 : Below w3.heap.size w3 w7 := bcall B31 hb7 (by omega); have PB7 := PB3.grown hg7 (fun g hg => by have := how g hg; omega); obtain ⟨o7, c7, rfl⟩ := NEW.slice; clear hg7 hb7 OW2 PE PBc PBf PBl; obtain ⟨PBc, PBf, PBl⟩ := id PB7)
         rw [← TK.out] at NEW
         go_roundw
         case rel => exact ⟨i + 1, hlt, by go_num, ⟨o7, c7, PB7.st 0 _, NEW.far (cloPP w) (by omega) (by omega) _⟩, by go_grown, by simp; omega⟩
         case measure => simp [intOf]; omega
    · have t1 : decide ((i : Int) < (u.length : Int)) = false := decF (by omega)
      have t1' : decide (i < u.length) = false := decF hlt
      have ei : i = u.length := by omega
      subst ei
      rw [TKN.out] at OW
      have UV := Hd ((OW.lq (cloPP w) (by decide) (Q := fun _ => True) (fun _ _ _ => trivial) (fun _ _ _ => trivial)).uni BV0)
      have SV := SS.out.bl BW
      have KV := Hd (K0.out.bl BV0)
      have src1 := Src.ofSl (P := Tryz.prog) (t := 58) Tryz.underlying58 SV (by decide) (by intro u hu; simp only [intVals, List.mem_map] at hu; obtain ⟨x, _, rfl⟩ := hu; rfl)
      have hl6 : l.length ≤ 6 := by have := HLN.out; omega
      have hup : 0 < l.length := by omega
      by_cases hyk : (k : Int) < y
      · have c1 : decide (y > (k : Int)) = true := decT hyk
        have c1' : decide ((k : Int) < y) = true := decT hyk
        have W9 : IntKind.i64.wrap (y - 1) = y - 1 := IntWalk.i64_in _ (by omega)
        have EQ : Hid (l.set p (y - 1) = dl) := Hd (by rw [DNS.out, HY.out]; unfold Pl.dnI; rw [if_pos hyk])
        go_wp2_with (at_builtin; go_loud (refine ap (by rfl) (by rfl) Tryz.tIntU (Below.refl v0.heap.size v0) (by rfl) (World.ownsRow_nil _ _ _ _) (m := l.length) src1 (by omega) nle ?_); intro v8 w8 own8 G8 h8; obtain ⟨o8, c8, rfl⟩ := own_slice own8; rw [Nat.zero_add, List.nil_append] at own8; obtain ⟨g8, rfl, hg8, hl8⟩ := own_ptr own8 hup; have e8 : w8.cell? ⟨g8, p, none⟩ = some (.int .i64 y) := (by have h := own8.cells (g := g8) rfl p (.int .i64 l[p]) (intVals_get l p hpl); rw [addr_add, Nat.zero_add, HY.out] at h; exact h); have f8 := own_free own8 p; have PB8 := PB.below G8 PB.lt; have PB9 := PB8.far (a := ⟨g8, p, none⟩) (by have := PB.lt; dsimp only; omega) (.int .i64 (y - 1)); obtain ⟨Qc, Qf, Ql⟩ := id PB9)
        have BW8 := G8.setCell (p := ⟨g8, p, none⟩) hg8 (.int .i64 (y - 1))
        have SW := Sl.own_set own8 hpl (y - 1)
        rw [EQ.out] at SW
        replace SW := Hd SW
        have BF := bcall BV0 BW8 BV0.size
        have sf := BF.size
        refine (CS2.out _ _ _ (UV.out.bl BW8) (KV.out.bl BW8)).mono ?_
        rintro e w9 ⟨o2, m2, rfl, TT, hb⟩
        have B9 := bcall BF hb BF.size
        have s9 := B9.size
        replace TT := Hd TT
        replace SW := Hd (SW.out.bl hb)
        clear hb e8 Qc Qf Ql
        go_wp2_with fail
        refine (CI.out _ _ _ _ _ (TT.out.bl (by go_grown)) (SW.out.bl (by go_grown))).mono ?_
        rintro e w10 ⟨rfl, hb⟩
        have B10 := bcm w hb
        go_wp2_with fail
        go_ret
        exact ⟨rfl, by go_grown⟩
      · have c1 : decide (y > (k : Int)) = false := decF hyk
        have c1' : decide ((k : Int) < y) = false := decF hyk
        have EQ : Hid (l = dl) := Hd (by
         rw [DNS.out, HY.out]
         unfold Pl.dnI
         rw [if_neg hyk, ← HY.out, List.set_getElem_self])
        go_wp2_with (at_builtin; go_loud (refine ap (by rfl) (by rfl) Tryz.tIntU (Below.refl v0.heap.size v0) (by rfl) (World.ownsRow_nil _ _ _ _) (m := l.length) src1 (by omega) nle ?_); intro v8 w8 own8 G8 h8; obtain ⟨o8, c8, rfl⟩ := own_slice own8; rw [Nat.zero_add, List.nil_append] at own8; obtain ⟨g8, rfl, hg8, hl8⟩ := own_ptr own8 hup; have e8 : w8.cell? ⟨g8, p, none⟩ = some (.int .i64 y) := (by have h := own8.cells (g := g8) rfl p (.int .i64 l[p]) (intVals_get l p hpl); rw [addr_add, Nat.zero_add, HY.out] at h; exact h); have PB9 := PB.below G8 PB.lt; obtain ⟨Qc, Qf, Ql⟩ := id PB9)
        have BW8 := G8
        have SW := Hd (show Sl w8 (some ⟨g8, 0, none⟩) l.length c8 1 (intVals dl) from by have h := Sl.own own8; rw [← EQ.out]; exact h)
        have BF := bcall BV0 BW8 BV0.size
        have sf := BF.size
        refine (CS2.out _ _ _ (UV.out.bl BW8) (KV.out.bl BW8)).mono ?_
        rintro e w9 ⟨o2, m2, rfl, TT, hb⟩
        have B9 := bcall BF hb BF.size
        have s9 := B9.size
        replace TT := Hd TT
        replace SW := Hd (SW.out.bl hb)
        clear hb e8 Qc Qf Ql
        go_wp2_with fail
        refine (CI.out _ _ _ _ _ (TT.out.bl (by go_grown)) (SW.out.bl (by go_grown))).mono ?_
        rintro e w10 ⟨rfl, hb⟩
        have B10 := bcm w hb
        go_wp2_with fail
        go_ret
        exact ⟨rfl, by go_grown⟩
theorem SolverUnusedReleasesDoNotMatter_any (RG : RangesHold) (u : Pl.Uni) (ws : List Pl.Need) (p k : Int) (a b : Option Addr) (c d : Nat) (w : World) (h1 : UIn w u a c) (h2 : NsIn w ws b d) (E : Env w) :
 Calls Tryz.prog 10 #[.agg #[.slice a u.length c], .slice b ws.length d, .int .i64 p, .int .i64 k] w fun e w' => e = .returned (.bool true) ∧ Below w.heap.size w w' := by
 cases TB : Pl.inB p 0 ((u.length : Int) - 1) with
 | false => exact unL_a RG u ws p k a b c d w h1 h2 E TB
 | true =>
   have hi := Pl.inB_true.1 TB
   obtain ⟨pn, rfl⟩ : ∃ n : Nat, p = n := ⟨p.toNat, by omega⟩
   have hp : pn < u.length := by omega
   cases TC : Pl.inB k 0 ((u[pn].length : Int) - 1) with
   | false => exact unL_b RG u ws pn k a b c d w h1 h2 E hp TC
   | true =>
     have hj := Pl.inB_true.1 TC
     obtain ⟨kn, rfl⟩ : ∃ n : Nat, k = n := ⟨k.toNat, by omega⟩
     have hk : kn < u[pn].length := by omega
     cases hs : Pl.slvR u ws with
     | none => exact unL_c RG u ws pn kn a b c d w h1 h2 E hp hk hs
     | some l =>
       by_cases he : Pl.numAt l pn = kn
       · exact unL_d RG u ws pn kn a b c d w h1 h2 E hp hk l hs he
       · exact unL_e RG u ws pn kn a b c d w h1 h2 E hp hk l hs he
end Go.Proofs.YtolfgcoalihmgaaGreatDoor
