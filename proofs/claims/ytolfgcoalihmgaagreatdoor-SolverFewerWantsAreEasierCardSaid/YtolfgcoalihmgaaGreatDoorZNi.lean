/- The law SolverFewerWantsAreEasier: what it computes is true. -/
import Derived.Test.YtolfgcoalihmgaaGreatDoorZMOs
import Derived.Test.YtolfgcoalihmgaaGreatDoorZMPo
import Derived.Test.YtolfgcoalihmgaaGreatDoorZMQl
namespace Go.Proofs.YtolfgcoalihmgaaGreatDoor
open Go.RowKit
set_option maxRecDepth 100000 in
theorem Tryz.tNeed : ElemT Tryz.prog 57 84 2 32 := ⟨Tryz.underlying57, ⟨_, _, rfl, rfl, rfl, rfl, rfl⟩, by decide, by decide⟩
theorem NdIs.one {w : World} {d : Pl.Need} {cs : List Value} (h : NdIs w d cs) : ∀ u ∈ cs, u.oneCell' = true := by
 obtain ⟨a, c, rfl, _⟩ := h
 intro u hu
 rcases List.mem_cons.1 hu with rfl | hu
 · rfl
 · rw [List.mem_singleton.1 hu]; rfl
theorem Elems.allQ {α : Type} {P : α → List Value → Prop} {sz : Nat} {Q : Value → Prop} (hQ : ∀ x c, P x c → ∀ u ∈ c, Q u) (hsz : 0 < sz) {xs : List α} {cs : List Value} (h : Elems P sz xs cs) : ∀ u ∈ cs, Q u := by
 intro u hu
 obtain ⟨j, hj, rfl⟩ := List.mem_iff_getElem.1 hu
 have h1 : j / sz < xs.length := (Nat.div_lt_iff_lt_mul hsz).2 (by rw [← h.len]; exact hj)
 refine hQ _ _ (h.each (j / sz) h1) _ ?_
 have h2 := Nat.mod_lt j hsz
 have h3 : j / sz * sz + j % sz = j := by rw [Nat.mul_comm]; exact Nat.div_add_mod j sz
 rw [List.mem_iff_getElem?]
 refine ⟨j % sz, ?_⟩
 rw [List.getElem?_take, if_pos h2, List.getElem?_drop, h3, List.getElem?_eq_getElem hj]
theorem Elems.take {α : Type} {P : α → List Value → Prop} {sz : Nat} {xs : List α} {cs : List Value} (h : Elems P sz xs cs) {k : Nat} (hk : k ≤ xs.length) : Elems P sz (xs.take k) (cs.take (k * sz)) := by
 have hc : k * sz ≤ xs.length * sz := Nat.mul_le_mul_right sz hk
 refine ⟨by rw [List.length_take, List.length_take, h.len, Nat.min_eq_left hc, Nat.min_eq_left hk], fun i hi => ?_⟩
 rw [List.length_take] at hi
 rw [List.getElem_take]
 have h2 : (i + 1) * sz ≤ k * sz := Nat.mul_le_mul_right sz (by omega)
 rw [Nat.add_mul, Nat.one_mul] at h2
 have := h.each i (by omega)
 rw [List.drop_take, List.take_take, Nat.min_eq_left (by omega)]
 exact this
theorem Elems.drop {α : Type} {P : α → List Value → Prop} {sz : Nat} {xs : List α} {cs : List Value} (h : Elems P sz xs cs) (k : Nat) : Elems P sz (xs.drop k) (cs.drop (k * sz)) := by
 refine ⟨by rw [List.length_drop, List.length_drop, h.len, Nat.sub_mul], fun i hi => ?_⟩
 rw [List.length_drop] at hi
 rw [List.getElem_drop, List.drop_drop, ← Nat.add_mul]
 exact h.each (k + i) (by omega)
theorem Sl.takeS {w : World} {oa : Option Addr} {n c sz : Nat} {cs : List Value} (h : Sl w oa n c sz cs) {k : Nat} (hk : k ≤ n) : Sl w oa k c sz (cs.take (k * sz)) := by
 have hc : k * sz ≤ n * sz := Nat.mul_le_mul_right sz hk
 refine ⟨by rw [List.length_take, h.hl, Nat.min_eq_left hc], Nat.le_trans hk h.hcap, h.hmax, ?_⟩
 rcases h.mem with h0 | ⟨b, off, e, hlt, hc2⟩
 · left; rw [h0, List.take_nil]
 · refine .inr ⟨b, off, e, hlt, fun j u hu => hc2 j u ?_⟩
   rw [List.getElem?_take] at hu
   split at hu
   · exact hu
   · cases hu
theorem Sl.dropS {w : World} {b off n c sz : Nat} {cs : List Value} (h : Sl w (some ⟨b, off, none⟩) n c sz cs) {k : Nat} (hk : k ≤ n) {ob : Option Addr} (ho : k < n → ob = some ⟨b, off + k * sz, none⟩) : Sl w ob (n - k) (c - k) sz (cs.drop (k * sz)) := by
 have hcap := h.hcap
 have hmax := h.hmax
 refine ⟨by rw [List.length_drop, h.hl, Nat.sub_mul], by omega, by omega, ?_⟩
 by_cases hn : k < n
 · rcases h.mem with h0 | ⟨b', off', e, hlt, hc2⟩
   · left; rw [h0, List.drop_nil]
   · cases e
     refine .inr ⟨b, off + k * sz, ho hn, hlt, fun j u hu => ?_⟩
     rw [List.getElem?_drop] at hu
     have := hc2 _ u hu
     rwa [← Nat.add_assoc] at this
 · left
   have : k = n := by omega
   subst this
   exact List.drop_of_length_le (by rw [h.hl]; exact nle)
theorem Solve_n (u : Pl.Uni) (ws : List Pl.Need) (n : Nat) (hn : ws.length = n) (a b : Option Addr) (c d : Nat) (w : World) (h1 : UIn w u a c) (h2 : NsIn w ws b d) :
 Calls Tryz.prog 43 #[.agg #[.slice a u.length c], .slice b n d] w (RSolve (Pl.wantsF u ws) (Pl.slvR u ws) w) := by
 subst hn
 exact Solve_any u ws a b c d w h1 h2
set_option maxRecDepth 100000 in
set_option maxHeartbeats 4000000 in
theorem fewL_a (RG : RangesHold) (u : Pl.Uni) (ws : List Pl.Need) (i : Int) (a b : Option Addr) (c d : Nat) (w : World) (h1 : UIn w u a c) (h2 : NsIn w ws b d) (E : Env w) (TB : Pl.inB i 0 ((ws.length : Int) - 1) = false) :
 Calls Tryz.prog 9 #[.agg #[.slice a u.length c], .slice b ws.length d, .int .i64 i] w fun e w' => e = .returned (.bool true) ∧ Below w.heap.size w w' := by
 have HS := Hd (fun (W : World) (E : Env W) => solves_any RG W E)
 have hm := h2.len
 have W1 : IntKind.i64.wrap ((ws.length : Int) - 1) = (ws.length : Int) - 1 := IntWalk.i64_in _ (by omega)
 have H := Hd h1
 have K := Hd h2
 have HE := Hd E
 clear h1 h2 E RG
 go_enter Tryz.func9, Tryz.ntmps9
 have B0 := brl w
 go_wp2_with fail
 refine (HS.out _ (HE.out.bl (by go_grown))).mono ?_
 rintro e w1 ⟨rfl, hb⟩
 have B1 := bcm w hb
 have q1 : w.heap.size + 1 ≤ w1.heap.size := qle hb
 replace H := Hd ((H.out.al _).bl hb)
 replace K := Hd ((K.out.al _).bl hb)
 have X := ((bkn w.heap.size [.slice a u.length c] 56)).bw hb
 clear hb
 have s1 := B1.size
 have ⟨Xc, Xf, Xl⟩ := X
 go_wp2_with fail
 clear HS HE
 refine (vast_any u ws _ _ c d _ (H.out) (K.out)).mono ?_
 rintro e w2 ⟨⟨g0, rfl, KG⟩, hb⟩
 have B2 := bcm w hb
 have q2 : w1.heap.size ≤ w2.heap.size := qle hb
 replace H := Hd (H.out.bl hb)
 replace K := Hd (K.out.bl hb)
 replace X := X.bw hb
 clear hb
 have s2 := B2.size
 clear Xc Xf Xl
 have ⟨Xc, Xf, Xl⟩ := X
 cases g0 with
 | true =>
   go_wp2_with fail
   go_ret
   exact ⟨rfl, by go_grown⟩
 | false =>
   have h20 := KG rfl
   clear KG
   go_wp2_with fail
   refine (lin_any _ _ _ _).mono ?_
   rintro e w3 ⟨rfl, rfl⟩
   rw [TB]
   go_wp2_with fail
   go_ret
   exact ⟨rfl, by go_grown⟩
set_option maxRecDepth 100000 in
set_option maxHeartbeats 8000000 in
theorem fewL_b (RG : RangesHold) (u : Pl.Uni) (ws : List Pl.Need) (i : Nat) (a : Option Addr) (bb off : Nat) (c d : Nat) (w : World) (h1 : UIn w u a c) (h2 : NsIn w ws (some ⟨bb, off, none⟩) d) (E : Env w) (hi : i < ws.length) (ok1 ok2 : Bool) (_ _ f1 f2 q1 q2 : Int) (n1 n2 n : Nat) (hn : n = i + (ws.length - (i + 1)))
 (c1 : ∀ W, UIn W u a c → NsIn W ws (some ⟨bb, off, none⟩) d → Calls Tryz.prog 43 #[.agg #[.slice a u.length c], .slice (some ⟨bb, off, none⟩) ws.length d] W fun e w' => ∃ o m, e = .returned (.tuple #[.slice o n1 m, .bool ok1, .agg #[.int .i64 f1, .int .i64 f2]]) ∧ Below W.heap.size W w')
 (c2 : ∀ W o m, UIn W u a c → NsIn W (ws.eraseIdx i) o m → Calls Tryz.prog 43 #[.agg #[.slice a u.length c], .slice o n m] W fun e w' => ∃ o m, e = .returned (.tuple #[.slice o n2 m, .bool ok2, .agg #[.int .i64 q1, .int .i64 q2]]) ∧ Below W.heap.size W w')
 (k1 : f1 ≠ 0 → ok1 = false) (k2 : f1 = 0 → q1 = 0 ∧ (ok1 = true → ok2 = true)) :
 Calls Tryz.prog 9 #[.agg #[.slice a u.length c], .slice (some ⟨bb, off, none⟩) ws.length d, .int .i64 i] w fun e w' => e = .returned (.bool true) ∧ Below w.heap.size w w' := by
 have C1 := Hd c1
 have C2 := Hd c2
 have K1 := Hd k1
 have K2 := Hd k2
 have HN := Hd hn
 have hcap : ws.length ≤ d := by obtain ⟨cs, h, _⟩ := h2.mem; exact h.hcap
 have hcm : d ≤ 9223372036854775807 := by obtain ⟨cs, h, _⟩ := h2.mem; exact h.hmax
 have TB : Pl.inB i 0 ((ws.length : Int) - 1) = true := Pl.inB_true.2 (by have := h2.len; omega)
 clear c1 c2 k1 k2 hn
 have HS := Hd (fun (W : World) (E : Env W) => solves_any RG W E)
 have hm := h2.len
 have W1 : IntKind.i64.wrap ((ws.length : Int) - 1) = (ws.length : Int) - 1 := IntWalk.i64_in _ (by omega)
 have H := Hd h1
 have K := Hd h2
 have HE := Hd E
 clear h1 h2 E RG
 go_enter Tryz.func9, Tryz.ntmps9
 have B0 := brl w
 go_wp2_with fail
 refine (HS.out _ (HE.out.bl (by go_grown))).mono ?_
 rintro e w1 ⟨rfl, hb⟩
 have B1 := bcm w hb
 have q1 : w.heap.size + 1 ≤ w1.heap.size := qle hb
 replace H := Hd ((H.out.al _).bl hb)
 replace K := Hd ((K.out.al _).bl hb)
 have X := ((bkn w.heap.size [.slice a u.length c] 56)).bw hb
 clear hb
 have s1 := B1.size
 have ⟨Xc, Xf, Xl⟩ := X
 go_wp2_with fail
 clear HS HE
 refine (vast_any u ws _ _ c d _ (H.out) (K.out)).mono ?_
 rintro e w2 ⟨⟨g0, rfl, KG⟩, hb⟩
 have B2 := bcm w hb
 have q2 : w1.heap.size ≤ w2.heap.size := qle hb
 replace H := Hd (H.out.bl hb)
 replace K := Hd (K.out.bl hb)
 replace X := X.bw hb
 clear hb
 have s2 := B2.size
 clear Xc Xf Xl
 have ⟨Xc, Xf, Xl⟩ := X
 cases g0 with
 | true =>
   go_wp2_with fail
   go_ret
   exact ⟨rfl, by go_grown⟩
 | false =>
   have h20 := KG rfl
   clear KG
   go_wp2_with fail
   refine (lin_any _ _ _ _).mono ?_
   rintro e w3 ⟨rfl, rfl⟩
   rw [TB]
   obtain ⟨cs, sl0, el0⟩ := K.out.mem
   have src1 := Src.ofSl (P := Tryz.prog) (t := 57) Tryz.underlying57 (sl0.takeS (k := i) (by omega)) (by decide) ((el0.take (k := i) (by omega)).allQ (fun _ _ h => h.one) (by decide))
   have tok : True := trivial
   obtain ⟨ob, hob, hok⟩ : ∃ ob, (if d = i + 1 then some (⟨bb, off, none⟩ : Addr) else some ⟨bb, off + (i + 1) * 2, none⟩) = ob ∧ Hid (i + 1 < ws.length → ob = some ⟨bb, off + (i + 1) * 2, none⟩) := ⟨_, rfl, Hd (fun _ => if_neg (by omega))⟩
   have W2 : IntKind.i64.wrap ((i : Int) + 1) = ((i + 1 : Nat) : Int) := by rw [IntWalk.i64_in _ (by omega)]; omega
   go_wp2_with (first | (at_builtin; have _t := tok; clear _t; clear tok; go_loud (refine ap (by rfl) (by rfl) Tryz.tNeed (Below.refl w2.heap.size w2) (by rfl) (World.ownsRow_nil _ _ _ _) (m := i) src1 (by omega) nle ?_); intro v5 w5 own5 G5 h5; have src2 := Src.ofSl (P := Tryz.prog) (t := 57) Tryz.underlying57 ((sl0.bl G5).dropS (k := i + 1) (by omega) (ob := ob) hok.out) (by decide) ((el0.drop (i + 1)).allQ (fun _ _ h => h.one) (by decide))) | (at_builtin; go_loud (refine ap (by rfl) (by rfl) Tryz.tNeed G5 (by rfl) own5 (m := ws.length - (i + 1)) src2 (by omega) h5 ?_); intro v6 w6 own6 G6 h6; have X6 := X.below G6 X.lt; obtain ⟨o6, c6, rfl⟩ := own_slice own6; obtain ⟨Yc, Yf, Yl⟩ := id X6))
   have B6 := bcall B2 G6 B2.size
   have s6 := B6.size
   have q6 : w2.heap.size ≤ w6.heap.size := G6.size
   have FSX : NsIn w6 (ws.eraseIdx i) o6 c6 := by
    rw [List.eraseIdx_eq_take_drop_succ]
    have e1 := (el0.take (k := i) (by omega)).append (el0.drop (i + 1))
    refine ⟨_, ?_, e1.mono fun _ _ h => h.bl G6⟩
    have h := Sl.own own6
    have e2 : (ws.take i ++ ws.drop (i + 1)).length = 0 + i + (ws.length - (i + 1)) := by rw [List.length_append, List.length_take, List.length_drop]; omega
    rw [e2]
    exact h
   replace FSX := Hd FSX
   clear Xc Xf Xl
   replace H := Hd (H.out.bl G6)
   replace K := Hd (K.out.bl G6)
   clear X sl0 el0 src1 src2 own5 own6 G5 G6 h5 h6 hob hok W1 W2 hcap hcm h20 TB hm
   refine (C1.out _ (H.out) (K.out)).mono ?_
   rintro e w7 ⟨o1, m1, rfl, hb⟩
   have B7 := bcm w hb
   have q7 : w6.heap.size ≤ w7.heap.size := qle hb
   replace H := Hd (H.out.bl hb)
   replace K := Hd (K.out.bl hb)
   replace FSX := Hd (FSX.out.bl hb)
   replace X6 := X6.bw hb
   clear hb
   have s7 := B7.size
   clear Yc Yf Yl
   have ⟨X6c, X6f, X6l⟩ := X6
   go_wp2_with fail
   have HN2 : i + (ws.length - (i + 1)) = n := HN.out.symm
   have HN3 : 0 + i + (ws.length - (i + 1)) = n := by rw [Nat.zero_add]; exact HN2
   try rw [HN2]
   try rw [HN3]
   clear HN2 HN3
   refine (C2.out _ _ _ ((H.out.al _)) ((FSX.out.al _))).mono ?_
   rintro e w8 ⟨o2, m2, rfl, hb⟩
   have B8 := bcm w hb
   have q8 : w7.heap.size + 1 ≤ w8.heap.size := qle hb
   replace H := Hd ((H.out.al _).bl hb)
   replace K := Hd ((K.out.al _).bl hb)
   replace FSX := Hd ((FSX.out.al _).bl hb)
   replace X6 := ((X6.alloc _)).bw hb
   have F1 := ((bkn w7.heap.size [.int .i64 f1, .int .i64 f2] 27)).bw hb
   clear hb
   have s8 := B8.size
   clear X6c X6f X6l
   have ⟨X6c, X6f, X6l⟩ := X6
   have ⟨F1c, F1f, F1l⟩ := F1
   by_cases hf : f1 = 0
   · obtain ⟨z1, z2⟩ := K2.out hf
     subst hf
     subst z1
     cases ok1 with
     | false =>
       go_wp2_with fail
       go_ret
       exact ⟨rfl, by go_grown⟩
     | true =>
       obtain rfl : ok2 = true := z2 rfl
       go_wp2_with fail
       go_ret
       exact ⟨rfl, by go_grown⟩
   · have z1 := bneT hf
     have z2 := beqF hf
     obtain rfl : ok1 = false := K1.out hf
     go_wp2_with fail
     go_ret
     exact ⟨rfl, by go_grown⟩
theorem SolverFewerWantsAreEasier_any (RG : RangesHold) (u : Pl.Uni) (ws : List Pl.Need) (i : Int) (a b : Option Addr) (c d : Nat) (w : World) (h1 : UIn w u a c) (h2 : NsIn w ws b d) (E : Env w) :
 Calls Tryz.prog 9 #[.agg #[.slice a u.length c], .slice b ws.length d, .int .i64 i] w fun e w' => e = .returned (.bool true) ∧ Below w.heap.size w w' := by
 cases TB : Pl.inB i 0 ((ws.length : Int) - 1) with
 | false => exact fewL_a RG u ws i a b c d w h1 h2 E TB
 | true =>
   have hi := Pl.inB_true.1 TB
   obtain ⟨k, rfl⟩ : ∃ k : Nat, i = k := ⟨i.toNat, by omega⟩
   have hk : k < ws.length := by omega
   obtain ⟨bb, off, rfl, -, -⟩ := h2.at (by omega)
   refine fewL_b RG u ws k a bb off c d w h1 h2 E hk (Pl.slvR u ws).isSome (Pl.slvR u (ws.eraseIdx k)).isSome 0 0 (Pl.wantsF u ws).1 (Pl.wantsF u ws).2 (Pl.wantsF u (ws.eraseIdx k)).1 (Pl.wantsF u (ws.eraseIdx k)).2 ((Pl.slvR u ws).getD []).length ((Pl.slvR u (ws.eraseIdx k)).getD []).length (ws.eraseIdx k).length (by rw [List.length_eraseIdx, if_pos hk]; omega) ?_ ?_ ?_ ?_
   · intro W g1 g2
     refine (Solve_any u ws a _ c d W g1 g2).mono fun e w' h => ?_
     obtain ⟨o, m, e1, -, e3⟩ := h
     exact ⟨o, m, e1, e3⟩
   · intro W o m g1 g2
     refine (Solve_any u (ws.eraseIdx k) a o c m W g1 g2).mono fun e w' h => ?_
     obtain ⟨o, m, e1, -, e3⟩ := h
     exact ⟨o, m, e1, e3⟩
   · intro hf
     unfold Pl.slvR
     rw [if_pos hf]; rfl
   · intro hf
     obtain ⟨e1, e2⟩ := Pl.fewer_law k hf
     refine ⟨e1, ?_⟩
     unfold Pl.slvR
     rw [if_neg (fun e => e hf), if_neg (fun e => e e1)]
     exact e2
end Go.Proofs.YtolfgcoalihmgaaGreatDoor
