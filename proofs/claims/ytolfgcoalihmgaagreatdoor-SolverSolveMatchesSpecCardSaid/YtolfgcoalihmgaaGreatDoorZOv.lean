/- Contracts of the reference: how many selections there are, the best solution by trying them in order. -/
import Derived.Test.YtolfgcoalihmgaaGreatDoorZMOu
namespace Go.Proofs.YtolfgcoalihmgaaGreatDoor
open Go.RowKit
theorem Pl.decN_drop : ∀ (ss : List Nat) (n p : Nat), (Pl.decN ss n).drop p = Pl.decN (ss.drop p) n
 | [], n, p => by simp [Pl.decN]
 | s :: r, n, 0 => rfl
 | s :: r, n, p + 1 => by rw [Pl.decN_cons, List.drop_succ_cons, List.drop_succ_cons, Pl.decN_drop r n p]
theorem Pl.decN_len : ∀ (ss : List Nat) (n : Nat), (Pl.decN ss n).length = ss.length
 | [], _ => rfl
 | s :: r, n => by rw [Pl.decN_cons, List.length_cons, Pl.decN_len r n, List.length_cons]
theorem Pl.dec_ok {u : Pl.Uni} {n : Nat} (h : n < Pl.prodS (Pl.sizes u)) : Pl.ChOk u (Pl.decN (Pl.sizes u) n) := by
 rw [← Pl.mem_sel, ← Pl.decN_all]
 exact List.mem_map.2 ⟨n, List.mem_range.2 h, rfl⟩
theorem Pl.prod_drop {u : Pl.Uni} {p : Nat} (h : p < u.length) : Pl.prodS ((Pl.sizes u).drop p) = (u[p].length + 1) * Pl.prodS ((Pl.sizes u).drop (p + 1)) := by
 rw [Pl.sizes_drop h, Pl.prodS_cons]
theorem Pl.set_drop {cs : List Int} {p : Nat} (h : p < cs.length) (x : Int) : (cs.set p x).drop p = x :: cs.drop (p + 1) := by
 rw [List.drop_eq_getElem_cons (by rw [List.length_set]; exact h), List.getElem_set_self, List.drop_set_of_lt (Nat.lt_succ_self p)]
def Pl.foundK (u : Pl.Uni) (ws : List Pl.Need) (N k : Nat) : Option (List Int) := (((List.range N).drop k).map (Pl.decN (Pl.sizes u))).find? (Pl.solB u ws)
theorem Pl.found_yes {u : Pl.Uni} {ws : List Pl.Need} {N k : Nat} (h : k < N) (e : Pl.solB u ws (Pl.decN (Pl.sizes u) k) = true) : Pl.foundK u ws N k = some (Pl.decN (Pl.sizes u) k) := by
 unfold Pl.foundK
 rw [Pl.range_drop h, List.map_cons, List.find?_cons, e]
theorem Pl.found_no {u : Pl.Uni} {ws : List Pl.Need} {N k : Nat} (h : k < N) (e : Pl.solB u ws (Pl.decN (Pl.sizes u) k) = false) : Pl.foundK u ws N k = Pl.foundK u ws N (k + 1) := by
 unfold Pl.foundK
 rw [Pl.range_drop h, List.map_cons, List.find?_cons, e]
theorem Pl.found_end {u : Pl.Uni} {ws : List Pl.Need} {N k : Nat} (h : N ≤ k) : Pl.foundK u ws N k = none := by
 unfold Pl.foundK
 rw [List.drop_of_length_le (by rw [List.length_range]; exact h)]; rfl
theorem Pl.found_best (u : Pl.Uni) (ws : List Pl.Need) : Pl.foundK u ws (Pl.prodS (Pl.sizes u)) 0 = Pl.best u ws := by
 unfold Pl.foundK
 rw [List.drop_zero]
 exact Pl.best_range u ws
theorem Pl.pow5 {p x s : Nat} (hp : p < 6) (h : x ≤ 5 ^ p) (hs : s ≤ 4) : x * (s + 1) ≤ 5 ^ (p + 1) ∧ x ≤ 15625 := by
 refine ⟨Nat.le_trans (Nat.mul_le_mul h (show s + 1 ≤ 5 by omega)) (by rw [Nat.pow_succ]; exact nle), Nat.le_trans h ?_⟩
 exact Nat.le_trans (Nat.pow_le_pow_right (by decide) (show p ≤ 6 by omega)) (by decide)
theorem Pl.prod5 : ∀ (l : List (List Pl.Rel)) (_ : ∀ x ∈ l, x.length ≤ 4), Pl.prodS (l.map List.length) ≤ 5 ^ l.length
 | [], _ => nle
 | x :: l, h => by
   rw [List.map_cons, Pl.prodS_cons, List.length_cons, Nat.pow_succ, Nat.mul_comm]
   exact Nat.mul_le_mul (Pl.prod5 l fun y hy => h y (List.mem_cons_of_mem _ hy)) (by have := h x List.mem_cons_self; omega)
theorem Pl.prod_le {u : Pl.Uni} (ok : Pl.UniOk u) : Pl.prodS (Pl.sizes u) ≤ 15625 := by
 refine Nat.le_trans (Pl.prod5 u fun x hx => (ok.rels x hx).len) ?_
 exact Nat.le_trans (Nat.pow_le_pow_right (by decide) ok.len) (by decide)
set_option maxRecDepth 100000 in
set_option maxHeartbeats 4000000 in
theorem Selections_any (u : Pl.Uni) (a : Option Addr) (c : Nat) (w : World) (h1 : UIn w u a c) (ok : Pl.UniOk u) :
 Calls Tryz.prog 44 #[.agg #[.slice a u.length c]] w fun e w' => e = .returned (.int .i64 (Pl.prodS (Pl.sizes u))) ∧ Below w.heap.size w w' := by
 obtain ⟨N, hN⟩ : ∃ N, Pl.prodS (Pl.sizes u) = N := ⟨_, rfl⟩
 rw [hN]
 have H := Hd h1
 have OK := Hd ok
 have hu6 := ok.len
 replace hN := Hd hN
 clear h1 ok
 go_enter Tryz.func44, Tryz.ntmps44
 go_wp2_with fail
 go_loopw [3, 4] (fun v i wr => ∃ p : Nat, p ≤ u.length ∧ i = .int .i64 p ∧ ∃ x : Nat, v = .int .i64 x ∧ Hid (x * Pl.prodS ((Pl.sizes u).drop p) = N) ∧ Hid (x ≤ 5 ^ p) ∧ Bk wr w.heap.size [.slice a u.length c] ∧ Below w.heap.size w wr) (fun _ i _ => u.length - (intOf i).toNat)
 case atStart => exact ⟨0, Nat.zero_le _, rfl, 1, rfl, Hd (by rw [List.drop_zero, Nat.one_mul]; exact hN.out), Hd nle, Bk.new (cs := [.slice a u.length c]) _ _ rfl, by go_grown⟩
 case round =>
  obtain ⟨p, hp, rfl, x, rfl, PX, HX, X, B9⟩ := hrel
  have s9 := B9.size
  have ⟨Xc, Xf, Xl⟩ := X
  by_cases hlt : p < u.length
  · have t1 : decide ((p : Int) < (u.length : Int)) = true := decT (by omega)
    have t1' : decide (p < u.length) = true := decT hlt
    have i1 : (p : Int) < (u.length : Int) := by omega
    obtain ⟨bu, fu, rfl, hbu, hatu⟩ := H.out.at (by omega)
    obtain ⟨a5, c5, I0⟩ := hatu p hlt
    have z0 := (B9.cell (p := ⟨bu, fu + p, none⟩) hbu).trans I0.e0
    have hbw : bu < wr.heap.size := by omega
    have hs4 := (OK.out.rels _ (List.getElem_mem hlt)).len
    have PD := Hd (Pl.prod_drop hlt)
    clear hatu I0
    generalize u[p].length = s at *
    obtain ⟨q1, q2⟩ := Pl.pow5 (show p < 6 by omega) HX.out hs4
    have q3 : x * (s + 1) ≤ 15625 * 5 := Nat.mul_le_mul q2 (by omega)
    have W1 : IntKind.i64.wrap ((s : Int) + 1) = ((s + 1 : Nat) : Int) := by rw [IntWalk.i64_in _ (by omega)]; omega
    have W2 : IntKind.i64.wrap ((x : Int) * ((s + 1 : Nat) : Int)) = ((x * (s + 1) : Nat) : Int) := by
     have e : (x : Int) * ((s + 1 : Nat) : Int) = ((x * (s + 1) : Nat) : Int) := by push_cast; rfl
     rw [e, IntWalk.i64_in _ (by omega)]
    have PX2 : Hid (x * (s + 1) * Pl.prodS ((Pl.sizes u).drop (p + 1)) = N) := Hd (by rw [Nat.mul_assoc, ← PD.out]; exact PX.out)
    replace q1 := Hd q1
    replace W1 := Hd W1
    replace W2 := Hd W2
    have EQ := Hd (show wrap64 ((x : Int) * ((s : Int) + 1)) = ((x * (s + 1) : Nat) : Int) by
     have e0 : (x : Int) * ((s : Int) + 1) = ((x * (s + 1) : Nat) : Int) := by push_cast; rfl
     rw [e0, IntWalk.wrap64_in _ (by omega)])
    have V2 := Hd (show IntKind.i64.wrap ((x : Int) * IntKind.i64.wrap ((s : Int) + 1)) = ((x * (s + 1) : Nat) : Int) by rw [W1.out]; exact W2.out)
    clear q3 PD
    go_wp2_with fail
    go_roundw
    case rel => exact ⟨p + 1, hlt, by go_num, x * (s + 1), by rw [EQ.out], PX2, q1, X, B9⟩
    case measure => simp [intOf]; omega
  · have t1 : decide ((p : Int) < (u.length : Int)) = false := decF (by omega)
    have t1' : decide (p < u.length) = false := decF hlt
    have E : Hid (x = N) := Hd (by have h := PX.out; rw [Pl.sizes_end (by omega)] at h; exact (Nat.mul_one x).symm.trans h)
    go_wp2_with fail
    go_ret
    exact ⟨by rw [← E.out]; rfl, B9⟩
def RBest (r : Option (List Int)) (w : World) (e : Ending) (w' : World) : Prop := ∃ o m, e = .returned (.tuple #[.slice o (r.getD []).length m, .bool r.isSome]) ∧ Sl w' o (r.getD []).length m 1 (intVals (r.getD [])) ∧ Below w.heap.size w w'
set_option maxRecDepth 100000 in
set_option maxHeartbeats 16000000 in
theorem Best_any (u : Pl.Uni) (ws : List Pl.Need) (a b : Option Addr) (c d : Nat) (w : World) (h1 : UIn w u a c) (h2 : NsIn w ws b d) (ok : Pl.UniOk u) (okw : Pl.NeedsOk u.length ws) (sr : ∀ ch, Pl.ChOk u ch → Pl.solR u ws ch = Pl.solB u ws ch) :
 Calls Tryz.prog 45 #[.agg #[.slice a u.length c], .slice b ws.length d] w (RBest (Pl.best u ws) w) := by
 obtain ⟨res, hres⟩ : ∃ r, Pl.best u ws = r := ⟨_, rfl⟩
 rw [hres]
 rw [← Pl.found_best] at hres
 have HN15 := Pl.prod_le ok
 have CSEL := Hd (fun (W : World) (g1 : UIn W u a c) => Selections_any u a c W g1 ok)
 have DOK := Hd (fun (n : Nat) (h : n < Pl.prodS (Pl.sizes u)) => Pl.dec_ok (u := u) h)
 have CSOL := Hd (fun (ch : List Int) (n : Nat) (hn : ch.length = n) (okc : Pl.ChOk u ch) (o : Option Addr) (m : Nat) (W : World) (g1 : UIn W u a c) (g2 : NsIn W ws b d) (g3 : Sl W o n m 1 (intVals ch)) => show Calls Tryz.prog 42 #[.agg #[.slice a u.length c], .slice b ws.length d, .slice o n m] W (fun e w' => e = .returned (.bool (Pl.solR u ws ch)) ∧ Below W.heap.size W w') from by subst hn; exact Solution_any u ws ch a b o c d m W g1 g2 g3 ok okw okc)
 have SR := Hd sr
 obtain ⟨N, hN⟩ : ∃ N, Pl.prodS (Pl.sizes u) = N := ⟨_, rfl⟩
 rw [hN] at hres CSEL HN15 DOK
 have RS := Hd hres
 have H := Hd h1
 have K := Hd h2
 have OK := Hd ok
 have hu6 := ok.len
 clear h1 h2 ok okw hres hN sr
 go_enter Tryz.func45, Tryz.ntmps45
 have B0 := brl w
 go_wp2_with fail
 refine (CSEL.out _ (H.out.bl (by go_grown))).mono ?_
 rintro e w1 ⟨rfl, hb⟩
 have B1 := bcm w hb
 have X : Bk w1 w.heap.size [.slice a u.length c] := (Bk.new (cs := [.slice a u.length c]) _ _ rfl).below hb (by simp)
 clear hb CSEL
 have s1 := B1.size
 go_wp2_with fail
 go_loopw [7] (fun i wr => ∃ k : Nat, k ≤ N ∧ i = .int .i64 k ∧ Hid (Pl.foundK u ws N k = res) ∧ Bk wr w.heap.size [.slice a u.length c] ∧ Below w.heap.size w wr) (fun i _ => N - (intOf i).toNat)
 case atStart => exact ⟨0, Nat.zero_le _, rfl, RS, X, B1⟩
 case round =>
  clear X
  obtain ⟨k, hk, rfl, FK, X, B9⟩ := hrel
  have s9 := B9.size
  have ⟨Xc, Xf, Xl⟩ := X
  by_cases hlt : k < N
  · have t1 : decide ((k : Int) < (N : Int)) = true := decT (by omega)
    have t1' : decide (k < N) = true := decT hlt
    have W1 : IntKind.i64.wrap ((u.length : Int) - 1) = (u.length : Int) - 1 := IntWalk.i64_in _ (by omega)
    go_wp2_with (at_make; go_loud (refine wp_makeZ (by rfl) (by rfl) Tryz.underlying58 (z0 := .int .i64 0) (bytes := 8) ⟨_, _, rfl, rfl, rfl, rfl, rfl⟩ u.length (by rfl) (by rfl) (by omega) (Nat.le_trans hu6 (by decide)) ?_))
    have V0 : Bk (wr.alloc (.cells (Array.replicate u.length (.int .i64 0)) 3)) wr.heap.size (List.replicate u.length (.int .i64 0)) := Bk.new (cs := List.replicate u.length (.int .i64 0)) _ _ rfl
    rw [← intVals_zeros] at V0
    have X2 := X.alloc (.cells (Array.replicate u.length (.int .i64 0)) 3)
    have B2 : Below w.heap.size w (wr.alloc (.cells (Array.replicate u.length (.int .i64 0)) 3)) := by go_grown
    have hgX : w.heap.size < wr.heap.size := Xl
    obtain ⟨g, hg⟩ : ∃ g, wr.heap.size = g := ⟨_, rfl⟩
    have hgs : w.heap.size ≤ g := by omega
    rw [hg] at V0 hgX ⊢
    clear Xc Xf Xl X B9 hg s9
    generalize wr.alloc (.cells (Array.replicate u.length (.int .i64 0)) 3) = v0 at *
    go_loopw [9, 10] (fun l j wr => ∃ (q : Nat) (cs : List Int), q ≤ u.length ∧ l = .int .i64 ((k / Pl.prodS ((Pl.sizes u).drop q) : Nat) : Int) ∧ j = .int .i64 ((q : Int) - 1) ∧ Hid (cs.drop q = (Pl.decN (Pl.sizes u) k).drop q) ∧ Hid (cs.length = u.length) ∧ Bk wr g (intVals cs) ∧ Bk wr w.heap.size [.slice a u.length c] ∧ Below w.heap.size w wr) (fun _ j _ => (intOf j + 1).toNat)
    case atStart => exact ⟨u.length, List.replicate u.length 0, nle, by rw [Pl.sizes_end nle]; first | rfl | (show _ = Value.int .i64 ((k / 1 : Nat) : Int); rw [Nat.div_one]), by first | rfl | go_num, Hd (by rw [List.drop_of_length_le (by simp), List.drop_of_length_le (by rw [Pl.decN_len]; unfold Pl.sizes; rw [List.length_map]; exact nle)]), Hd (List.length_replicate ..), V0, X2, B2⟩
    case round =>
     clear V0 X2 B2
     obtain ⟨q, cs, hq, rfl, rfl, DR, LN, V, X, B9⟩ := hrel
     have s9 := B9.size
     have ⟨Xc, Xf, Xl⟩ := X
     by_cases h0 : 0 < q
     · obtain ⟨p, rfl⟩ : ∃ p, q = p + 1 := ⟨q - 1, by omega⟩
       have ep : ((p + 1 : Nat) : Int) - 1 = (p : Int) := by omega
       rw [ep]
       have t2 : decide ((0 : Int) ≤ (p : Int)) = true := decT (by omega)
       have t2' : decide ((p : Int) ≥ 0) = true := decT (by omega)
       have hpu : p < u.length := by omega
       have i1 : (p : Int) < (u.length : Int) := by omega
       obtain ⟨bu, fu, rfl, hbu, hatu⟩ := H.out.at (by omega)
       obtain ⟨a5, c5, I0⟩ := hatu p hpu
       have z0 := (B9.cell (p := ⟨bu, fu + p, none⟩) hbu).trans I0.e0
       have hbw : bu < wr.heap.size := by omega
       have hs4 := (OK.out.rels _ (List.getElem_mem hpu)).len
       have PD := Hd (Pl.prod_drop hpu)
       have DC := Hd (show (Pl.decN (Pl.sizes u) k).drop p = ((u[p].length : Int) - 1 - ((k / Pl.prodS ((Pl.sizes u).drop (p + 1)) % (u[p].length + 1) : Nat) : Int)) :: (Pl.decN (Pl.sizes u) k).drop (p + 1) by rw [Pl.decN_drop, Pl.decN_drop, Pl.sizes_drop hpu, Pl.decN_cons])
       clear hatu I0
       generalize u[p].length = s at *
       have hlen : p < cs.length := by rw [LN.out]; exact hpu
       have v0' := V.c p (u := .int .i64 cs[p]) (intVals_get _ _ hlen)
       have vf := V.f p
       have vl := V.lt
       obtain ⟨L, hL⟩ : ∃ L, k / Pl.prodS ((Pl.sizes u).drop (p + 1)) = L := ⟨_, rfl⟩
       have L15 : L ≤ 15625 := by rw [← hL]; exact Nat.le_trans (Nat.div_le_self _ _) (by omega)
       have L2 : Hid (k / Pl.prodS ((Pl.sizes u).drop p) = L / (s + 1)) := Hd (by rw [PD.out, Nat.mul_comm, ← Nat.div_div_eq_div_mul, hL])
       rw [hL] at DC ⊢
       obtain ⟨D, hD⟩ : ∃ D, L % (s + 1) = D := ⟨_, rfl⟩
       obtain ⟨Q, hQ⟩ : ∃ Q, L / (s + 1) = Q := ⟨_, rfl⟩
       rw [hD] at DC
       rw [hQ] at L2
       have hDs : D < s + 1 := by rw [← hD]; exact Nat.mod_lt _ (by omega)
       have hQL : Q ≤ L := by rw [← hQ]; exact Nat.div_le_self _ _
       have d1 : (L : Int).tdiv ((s : Int) + 1) = (Q : Int) := by
        rw [Int.tdiv_eq_ediv_of_nonneg (by omega), ← hQ] <;> rfl
       have d2 : (L : Int).tmod ((s : Int) + 1) = (D : Int) := by
        rw [Int.tmod_eq_emod_of_nonneg (by omega), ← hD] <;> rfl
       have W2 : IntKind.i64.wrap ((s : Int) + 1) = (s : Int) + 1 := IntWalk.i64_in _ (by omega)
       have W3 : IntKind.i64.wrap ((s : Int) + 1 - 2) = (s : Int) - 1 := by rw [IntWalk.i64_in _ (by omega)]; omega
       have W4 : IntKind.i64.wrap ((s : Int) - 1 - (D : Int)) = (s : Int) - 1 - (D : Int) := IntWalk.i64_in _ (by omega)
       have W5 : IntKind.i64.wrap (Q : Int) = (Q : Int) := IntWalk.i64_in _ (by omega)
       have W6 : IntKind.i64.wrap (D : Int) = (D : Int) := IntWalk.i64_in _ (by omega)
       have z1 : ((s : Int) + 1 = 0) = False := eq_false (by omega)
       have z2 : ((s : Int) + 1 == 0) = false := beq_eq_false_iff_ne.2 (by omega)
       have V2 := V.set (k := p) (by rw [intVals_length]; exact hlen) (.int .i64 ((s : Int) - 1 - (D : Int)))
       rw [intVals_set] at V2
       have DR2 : Hid ((cs.set p ((s : Int) - 1 - (D : Int))).drop p = (Pl.decN (Pl.sizes u) k).drop p) := Hd (by rw [Pl.set_drop hlen, DC.out, DR.out])
       have LN2 : Hid ((cs.set p ((s : Int) - 1 - (D : Int))).length = u.length) := Hd (by rw [List.length_set]; exact LN.out)
       have X3 := X.far (a := ⟨g, p, none⟩) (by dsimp only; omega) (.int .i64 ((s : Int) - 1 - (D : Int)))
       have B3 := B9.setCell (p := ⟨g, p, none⟩) hgs (.int .i64 ((s : Int) - 1 - (D : Int)))
       clear hL hD hQ DC PD DR LN
       go_wp2_with fail
       go_roundw
       case rel => exact ⟨p, cs.set p ((s : Int) - 1 - (D : Int)), by omega, by rw [L2.out], by first | rfl | go_num, DR2, LN2, V2, X3, B3⟩
       case measure => simp [intOf]
     · obtain rfl : q = 0 := by omega
       have t2 : decide ((0 : Int) ≤ ((0 : Nat) : Int) - 1) = false := decF (by omega)
       have t2' : decide (((0 : Nat) : Int) - 1 ≥ 0) = false := decF (by omega)
       have EC : cs = Pl.decN (Pl.sizes u) k := by have h := DR.out; rw [List.drop_zero, List.drop_zero] at h; exact h
       have OKC : Pl.ChOk u cs := by rw [EC]; exact DOK.out k hlt
       have CS := CSOL.out cs u.length LN.out OKC (some ⟨g, 0, none⟩) u.length wr (H.out.bl B9) (K.out.bl B9) (V.sl LN.out hu6)
       rw [SR.out cs OKC] at CS
       obtain ⟨bb, hbb⟩ : ∃ bb, Pl.solB u ws cs = bb := ⟨_, rfl⟩
       rw [hbb] at CS
       rw [EC] at hbb
       replace CS := Hd CS
       have EC2 := Hd EC
       clear EC OKC DR
       go_wp2_with fail
       refine CS.out.mono ?_
       rintro e w5 ⟨rfl, hb⟩
       have B5 := bcall B9 hb (by omega)
       have V5 := V.below hb V.lt
       have X5 := X.below hb X.lt
       clear hb CS Xc Xf Xl
       cases bb with
       | true =>
         have E : Hid (res = some cs) := Hd (by rw [← FK.out, Pl.found_yes hlt hbb, EC2.out])
         clear hbb
         go_wp2_with fail
         rw [E.out]
         refine bodyPost_ret (v := .tuple #[.slice (some ⟨g, 0, none⟩) u.length u.length, .bool true]) (by simp [results, Tryz.results45, go_sem]) rfl ⟨some ⟨g, 0, none⟩, u.length, by rw [Option.getD_some, LN.out]; rfl, ?_, B5⟩
         rw [Option.getD_some, LN.out]
         exact V5.sl LN.out hu6
       | false =>
         have E : Hid (Pl.foundK u ws N (k + 1) = res) := Hd (by rw [← Pl.found_no hlt hbb]; exact FK.out)
         clear hbb
         go_wp2_with fail
         go_roundw
         case rel => exact ⟨k + 1, hlt, by go_num, E, X5, B5⟩
         case measure => simp [intOf]; omega
  · have t1 : decide ((k : Int) < (N : Int)) = false := decF (by omega)
    have t1' : decide (k < N) = false := decF hlt
    have E : Hid (res = none) := Hd (by rw [← FK.out]; exact Pl.found_end (by omega))
    go_wp2_with fail
    rw [E.out]
    refine bodyPost_ret (v := .tuple #[.slice none 0 0, .bool false]) (by simp [results, Tryz.results45, go_sem]) rfl ⟨none, 0, rfl, Sl.nil _ 1, B9⟩
end Go.Proofs.YtolfgcoalihmgaaGreatDoor
