/- Texts joined. -/
import Derived.Test.YtolfgcoalihmgaaGreatDoorZMQi
import Derived.Test.YtolfgcoalihmgaaGreatDoorZMKo
import Derived.Test.YtolfgcoalihmgaaGreatDoorZMOb
namespace Go.Proofs.YtolfgcoalihmgaaGreatDoor
section
open Go.RowKit
theorem grownBy_trans {a w w' : World} {row : Option Nat} (h : a.grownBy w row) (k : w.grownBy w' row) : a.grownBy w' row :=
 ⟨k.os.trans h.os, k.tape.trans h.tape, k.output.trans h.output, Nat.le_trans h.size k.size, fun b hb hne => (k.block b (Nat.lt_of_lt_of_le hb h.size) hne).trans (h.block b hb hne)⟩
theorem grownBy_setB {a w : World} {b : Nat} (h : a.grownBy w (some b)) (i : Nat) (v : Value) : a.grownBy (w.setCell ⟨b, i, none⟩ v) (some b) := grownBy_trans h (grown_setCell w b i v)
theorem grownBy_some {w w' : World} (h : w.grownBy w' none) (r : Option Nat) : w.grownBy w' r := ⟨h.os, h.tape, h.output, h.size, fun k hk _ => h.block k hk (fun e => by cases e)⟩
def capt (bc bp bu bs : Nat) : Array Value := #[.pointer (some ⟨bc, 0, none⟩), .pointer (some ⟨bp, 0, none⟩), .pointer (some ⟨bu, 0, none⟩), .pointer (some ⟨bs, 0, none⟩)]
structure SMem (w : World) (D : Nat) (u : Pl.Uni) (ws : List Pl.Need) (a o1 o2 : Option Addr) (c k1 k2 bc bp bu bs cb : Nat) : Prop where
 C : Bk w bc [.slice (some ⟨cb, 0, none⟩) u.length u.length]
 P : Bk w bp [.slice o1 ws.length k1, .slice o2 u.length k2]
 U : Bk w bu [.slice a u.length c]
 S : Bk w bs [.func (.func 94) #[] (capt bc bp bu bs)]
 pw : LQ 5 (Pd u) w (fun g => g < D) ws o1 k1
 pn : LQ 1 (P2 u) w (fun g => g < D) (Pl.nsAll u) o2 k2
 un : ∀ k (hk : k < u.length), ∃ b off a1 c1, a = some ⟨b, off, none⟩ ∧ b < D ∧ b < w.heap.size ∧ w.cell? ⟨b, off + k, none⟩ = some (.slice a1 u[k].length c1)
 d : D ≤ cb
 n1 : cb ≠ bc
 n2 : cb ≠ bp
 n3 : cb ≠ bu
 n4 : cb ≠ bs
theorem SMem.grown {w w' : World} {D : Nat} {u : Pl.Uni} {ws : List Pl.Need} {a o1 o2 : Option Addr} {c k1 k2 bc bp bu bs cb : Nat} (h : SMem w D u ws a o1 o2 c k1 k2 bc bp bu bs cb) (hg : w.grownBy w' (some cb)) : SMem w' D u ws a o1 o2 c k1 k2 bc bp bu bs cb :=
 ⟨h.C.grown hg (fun g e => by cases e; exact h.n1), h.P.grown hg (fun g e => by cases e; exact h.n2), h.U.grown hg (fun g e => by cases e; exact h.n3), h.S.grown hg (fun g e => by cases e; exact h.n4),
   h.pw.grown (cloD u) (by decide) hg (fun b hb e => by cases e; have := h.d; omega), h.pn.grown (clo2 u) (by decide) hg (fun b hb e => by cases e; have := h.d; omega),
   fun k hk => by
    obtain ⟨b, off, a1, c1, e, h1, h2, h3⟩ := h.un k hk
    exact ⟨b, off, a1, c1, e, h1, Nat.lt_of_lt_of_le h2 hg.size, (World.cell?_of_block (a := ⟨b, off + k, none⟩) (hg.block b h2 (fun e => by cases e; have := h.d; omega))).trans h3⟩, h.d, h.n1, h.n2, h.n3, h.n4⟩
theorem SMem.prob {w : World} {D : Nat} {u : Pl.Uni} {ws : List Pl.Need} {a o1 o2 : Option Addr} {c k1 k2 bc bp bu bs cb : Nat} (h : SMem w D u ws a o1 o2 c k1 k2 bc bp bu bs cb) : ProbIn w 0 u ws o1 k1 o2 k2 :=
 ⟨h.pw.mono (cloD u) (by decide) fun _ _ _ => Nat.zero_le _, h.pn.mono (clo2 u) (by decide) fun _ _ _ => Nat.zero_le _⟩
theorem Bk.sl {w : World} {cb n : Nat} {cs : List Int} (h : Bk w cb (intVals cs)) (hn : cs.length = n) (h6 : n ≤ 6) : Sl w (some ⟨cb, 0, none⟩) n n 1 (intVals cs) :=
 ⟨by rw [intVals_length, hn, Nat.mul_one], nle, Nat.le_trans h6 (by decide), .inr ⟨cb, 0, rfl, h.lt, fun j v hv => by rw [Nat.zero_add]; exact h.c j hv⟩⟩
def SRes (w : World) (u : Pl.Uni) (ws : List Pl.Need) (cb : Nat) (ss : List Nat) (pre : List Int) (e : Ending) (w' : World) : Prop :=
 ∃ b cs', e = .returned (.bool b) ∧ w.grownBy w' (some cb) ∧ Bk w' cb (intVals cs') ∧ cs'.length = u.length ∧ cs'.take pre.length = pre ∧ Pl.After (Pl.solB u ws) ss pre cs' b
def PreOk (u : Pl.Uni) (pre : List Int) : Prop := ∀ k (h : k < pre.length) (g : k < u.length), -1 ≤ pre[k] ∧ pre[k] < (u[k].length : Int)
theorem PreOk.snoc {u : Pl.Uni} {pre : List Int} {n : Int} (h : PreOk u pre) (hp : pre.length < u.length) (h1 : -1 ≤ n) (h2 : n < (u[pre.length].length : Int)) : PreOk u (pre ++ [n]) := fun k hk hg => by
 by_cases c : k < pre.length
 · rw [List.getElem_append_left c]; exact h k c hg
 · have e : k = pre.length := by simp at hk; omega
   subst e
   rw [List.getElem_append_right nle]
   simp only [Nat.sub_self, List.getElem_singleton]
   exact ⟨h1, h2⟩
theorem intVals_set (l : List Int) (k : Nat) (x : Int) : (intVals l).set k (.int .i64 x) = intVals (l.set k x) := by unfold intVals; rw [List.map_set]
def Deep (u : Pl.Uni) (ws : List Pl.Need) (D : Nat) (a o1 o2 : Option Addr) (c k1 k2 bc bp bu bs cb i : Nat) (pre : List Int) : Prop :=
 ∀ (W : World) (cs : List Int), SMem W D u ws a o1 o2 c k1 k2 bc bp bu bs cb → Bk W cb (intVals cs) → cs.length = u.length → cs.take i = pre →
  Calls Tryz.prog 94 (#[.int .i64 i] ++ capt bc bp bu bs) W (SRes W u ws cb ((Pl.sizes u).drop i) pre)
set_option maxRecDepth 100000 in
set_option maxHeartbeats 4000000 in
theorem srch_end (u : Pl.Uni) (ws : List Pl.Need) (D : Nat) (a o1 o2 : Option Addr) (c k1 k2 bc bp bu bs cb : Nat) (pre : List Int) (ok : Pl.UniOk u) (okw : Pl.NeedsOk u.length ws) (hp : pre.length = u.length) (op : PreOk u pre) :
 Deep u ws D a o1 o2 c k1 k2 bc bp bu bs cb u.length pre := by
 intro w cs hM hV hl ht
 rw [List.take_of_length_le (by omega)] at ht
 subst ht
 have hu6 := ok.len
 have OC : Pl.ChOk u cs := ⟨hl, op⟩
 have CS := solved_any u ws cs o1 o2 (some ⟨cb, 0, none⟩) k1 k2 u.length 0 w hM.prob (by rw [hl]; exact hV.sl hl hu6) ok okw OC
 obtain ⟨b, hb⟩ : ∃ b, Pl.solB u ws cs = b := ⟨_, rfl⟩
 have AF := Hd (show Pl.After (Pl.solB u ws) ((Pl.sizes u).drop u.length) cs cs b by rw [Pl.sizes_end nle]; exact Pl.srch_end hb)
 rw [hb, hl] at CS
 replace CS := Hd CS
 have M := Hd hM
 obtain ⟨Cc, -, Cl⟩ := id hM.C
 obtain ⟨Pc, -, P_l⟩ := id hM.P
 have HP := Hd hp
 clear hM ok okw op OC hp hb
 unfold capt
 go_enter Tryz.func94, Tryz.ntmps94
 go_wp2_with fail
 refine CS.out.mono ?_
 rintro e w1 ⟨rfl, hb⟩
 clear Cc Cl Pc P_l
 go_wp2_with fail
 go_ret
 exact ⟨b, cs, rfl, grownBy_some (grown_of_below hb nle) _, hV.below hb hV.lt, hl, List.take_of_length_le nle, AF.out⟩
set_option maxRecDepth 100000 in
set_option maxHeartbeats 8000000 in
theorem srch_step (u : Pl.Uni) (ws : List Pl.Need) (D : Nat) (a o1 o2 : Option Addr) (c k1 k2 bc bp bu bs cb i : Nat) (pre : List Int) (ok : Pl.UniOk u) (hi : i < u.length) (hp : pre.length = i) (op : PreOk u pre)
 (IH : ∀ n : Int, PreOk u (pre ++ [n]) → Deep u ws D a o1 o2 c k1 k2 bc bp bu bs cb (i + 1) (pre ++ [n])) : Deep u ws D a o1 o2 c k1 k2 bc bp bu bs cb i pre := by
 intro w cs hM hV hl ht
 subst hp
 have hu6 := ok.len
 have hs4 := (ok.rels _ (List.getElem_mem hi)).len
 obtain ⟨res, hres⟩ : ∃ res, Pl.srch (Pl.solB u ws) ((Pl.sizes u).drop pre.length) pre = res := ⟨_, rfl⟩
 have TR := Pl.srch_try (Pl.solB u ws) u[pre.length].length ((Pl.sizes u).drop (pre.length + 1)) pre
 rw [← Pl.sizes_drop hi, hres] at TR
 have CL := Hd (fun (n : Int) (h1 : -1 ≤ n) (h2 : n < (u[pre.length].length : Int)) => IH n (op.snoc hi h1 h2))
 have RS := Hd hres
 have M := Hd hM
 obtain ⟨f, hf⟩ : ∃ f, (fun n => Pl.srch (Pl.solB u ws) ((Pl.sizes u).drop (pre.length + 1)) (pre ++ [n])) = f := ⟨_, rfl⟩
 rw [hf] at TR
 have HF := Hd hf
 replace TR := Hd TR
 obtain ⟨bb, off, a1, c1, rfl, hbD, hbl, y0⟩ := hM.un _ hi
 obtain ⟨Cc, -, Cl⟩ := id hM.C
 obtain ⟨Uc, -, Ul⟩ := id hM.U
 have t1 : ((pre.length : Int) == (u.length : Int)) = false := by simp; omega
 have t1' : (pre.length == u.length) = false := by simp; omega
 have i1 : (pre.length : Int) < (u.length : Int) := by omega
 generalize u[pre.length].length = s at *
 have W1 : IntKind.i64.wrap ((s : Int) - 1) = (s : Int) - 1 := IntWalk.i64_in _ (by omega)
 clear hM ok op IH hf hres
 unfold capt
 go_enter Tryz.func94, Tryz.ntmps94
 go_wp2_with fail
 go_loopw [7] (fun n wr => ∃ (k : Nat) (cs1 : List Int), k ≤ s + 1 ∧ n = .int .i64 ((k : Int) - 2) ∧ w.grownBy wr (some cb) ∧ Bk wr cb (intVals cs1) ∧ cs1.length = u.length ∧ cs1.take pre.length = pre ∧ Hid (Pl.tryK f k = res)) (fun n _ => (intOf n + 2).toNat)
 case atStart => exact ⟨s + 1, cs, nle, by first | go_num | (congr 1; omega), World.grownBy.refl _ _, hV, hl, ht, Hd TR.out.symm⟩
 case round =>
  obtain ⟨k, cs1, hk, rfl, GB, V, hl1, ht1, TK⟩ := hrel
  clear Cc Cl Uc Ul y0 hV
  have M1 := Hd (M.out.grown GB)
  obtain ⟨Cc, -, Cl⟩ := id M1.out.C
  obtain ⟨Sc, -, S_l⟩ := id M1.out.S
  by_cases h0 : 0 < k
  · obtain ⟨j, rfl⟩ : ∃ j, k = j + 1 := ⟨k - 1, by omega⟩
    have e2 : ((j + 1 : Nat) : Int) - 2 = (j : Int) - 1 := by omega
    rw [e2]
    have t3 : decide (-1 ≤ (j : Int) - 1) = true := decT (by omega)
    have t3' : decide ((j : Int) - 1 ≥ -1) = true := decT (by omega)
    have W2 : IntKind.i64.wrap ((pre.length : Int) + 1) = ((pre.length + 1 : Nat) : Int) := by rw [IntWalk.i64_in _ (by omega)]; omega
    have W3 : IntKind.i64.wrap ((j : Int) - 1 - 1) = (j : Int) - 2 := by rw [IntWalk.i64_in _ (by omega)]; omega
    have v0 := V.c pre.length (u := .int .i64 cs1[pre.length]) (intVals_get _ _ (by omega))
    have v1 := V.f pre.length
    have vl := V.lt
    have V2 := V.set (k := pre.length) (by rw [intVals_length]; omega) (.int .i64 ((j : Int) - 1))
    rw [intVals_set] at V2
    have GB2 := grownBy_setB GB pre.length (.int .i64 ((j : Int) - 1))
    have M2 := Hd (M.out.grown GB2)
    have tk := Pl.take_set (cs := cs1) (i := pre.length) (by omega) ((j : Int) - 1)
    rw [ht1] at tk
    have CC := Hd (CL.out ((j : Int) - 1) (by omega) (by omega) _ _ M2.out V2 (by rw [List.length_set]; exact hl1) tk)
    unfold capt at CC
    obtain ⟨S2c, -, S2l⟩ := id M2.out.S
    go_wp2_with fail
    refine CC.out.mono ?_
    rintro e w1 ⟨b, cs2, rfl, hg, V3, hl2, ht2, AF⟩
    have GB3 := grownBy_trans GB2 hg
    have ht3 := Pl.take_pre rfl (by simpa using ht2)
    replace AF := Hd AF
    clear CC S2c S2l Cc Cl Sc S_l v0 v1 vl V2
    cases b with
    | true =>
      have E : Hid (Pl.After (Pl.solB u ws) ((Pl.sizes u).drop pre.length) pre cs2 true) := Hd (by
       show _ = some cs2
       rw [RS.out, ← TK.out]
       exact Pl.tryK_some (by rw [← HF.out]; exact AF.out))
      go_wp2_with fail
      go_ret
      exact ⟨true, cs2, rfl, GB3, V3, hl2, ht3, E.out⟩
    | false =>
      have E : Hid (Pl.tryK f j = res) := Hd (by
       rw [← TK.out]
       exact (Pl.tryK_none (by rw [← HF.out]; exact AF.out)).symm)
      go_wp2_with fail
      go_roundw
      case rel => exact ⟨j, cs2, by omega, by first | go_num | (congr 1; omega), GB3, V3, hl2, ht3, E⟩
      case measure => simp [intOf]; omega
  · obtain rfl : k = 0 := by omega
    have t3 : decide (-1 ≤ (((0 : Nat) : Int) - 2)) = false := decF (by omega)
    have t3' : decide ((((0 : Nat) : Int) - 2) ≥ -1) = false := decF (by omega)
    have E : Hid (Pl.After (Pl.solB u ws) ((Pl.sizes u).drop pre.length) pre cs1 false) := Hd (by
     show _ = none
     rw [RS.out, ← TK.out]; rfl)
    go_wp2_with fail
    go_ret
    exact ⟨false, cs1, rfl, GB, V, hl1, ht1, E.out⟩
theorem srch_any (u : Pl.Uni) (ws : List Pl.Need) (D : Nat) (a o1 o2 : Option Addr) (c k1 k2 bc bp bu bs cb : Nat) (ok : Pl.UniOk u) (okw : Pl.NeedsOk u.length ws) :
 ∀ (m i : Nat) (pre : List Int), i + m = u.length → pre.length = i → PreOk u pre → Deep u ws D a o1 o2 c k1 k2 bc bp bu bs cb i pre
 | 0, i, pre, h, hp, op => by
   obtain rfl : i = u.length := by omega
   exact srch_end u ws D a o1 o2 c k1 k2 bc bp bu bs cb pre ok okw hp op
 | m + 1, i, pre, h, hp, op => srch_step u ws D a o1 o2 c k1 k2 bc bp bu bs cb i pre ok (by omega) hp op fun n h2 => srch_any u ws D a o1 o2 c k1 k2 bc bp bu bs cb ok okw m (i + 1) (pre ++ [n]) (by omega) (by simp [hp]) h2
end
section
open Go.RowKit
set_option maxRecDepth 100000 in
set_option maxHeartbeats 4000000 in
theorem sNeeds_any (l : List Pl.Need) (a : Option Addr) (c : Nat) (n : Int) (w : World) (h : NsIn w l a c) :
 Calls Tryz.prog 125 #[.slice a l.length c, .int .i64 n] w fun e w' => e = .returned (.int .i64 (Pl.needsC n l)) ∧ Below w.heap.size w w' := by
 have hm := h.len
 obtain ⟨C, hC⟩ : ∃ C, Pl.needsC n l = C := ⟨_, rfl⟩
 rw [hC]
 have H := Hd h
 clear h
 by_cases hn : 4 < l.length
 · have E : C = 2 := by rw [← hC]; unfold Pl.needsC; rw [if_pos hn]
   subst E
   have t1 : decide ((4 : Int) < (l.length : Int)) = true := by simp; omega
   clear hC hn
   go_enter Tryz.func125, Tryz.ntmps125
   go_wp2_with fail
   go_ret
   exact ⟨rfl, Below.refl _ _⟩
 · obtain ⟨F, hF⟩ : ∃ F, Pl.codeAt (Pl.needI n l) l.length 0 = F := ⟨_, rfl⟩
   have E : C = F.1 := by rw [← hC, ← hF]; unfold Pl.needsC; rw [if_neg hn]
   subst E
   have HF := Hd hF
   have t1 : decide ((4 : Int) < (l.length : Int)) = false := by simp; omega
   clear hC hF hn
   go_enter Tryz.func125, Tryz.ntmps125
   go_wp2_with fail
   go_loopw [13] (fun i wr => ∃ k : Nat, k ≤ l.length ∧ i = .int .i64 k ∧ Hid (Pl.codeAt (Pl.needI n l) l.length k = F) ∧ Below w.heap.size w wr) (fun i _ => l.length - (intOf i).toNat)
   case atStart => exact ⟨0, Nat.zero_le _, rfl, HF, Below.refl _ _⟩
   case round =>
    obtain ⟨k, hk, rfl, hu, B1⟩ := hrel
    have s1 := B1.size
    by_cases hlt2 : k < l.length
    · obtain ⟨b, off, rfl, hlt, hat⟩ := (H.out.bl B1).at (by omega)
      obtain ⟨a1, c1, I⟩ := hat k hlt2
      have HGO := Hd (Pl.codeAt_go hlt2 hu.out)
      have HAT := Hd hat
      have HI := Hd I
      clear hat I
      have tz : decide (k < l.length) = true := by simp; omega
      have ty : decide ((k : Int) < (l.length : Int)) = true := by simp; omega
      by_cases q1 : l[k].pk < 0
      · have t2 := decide_eq_true q1
        have E := Hd (HGO.out.2 (by rw [Pl.needI_low hlt2 q1]; decide))
        rw [Pl.needI_low hlt2 q1] at E
        clear q1
        clear HGO hu HF hk
        clear HAT
        obtain ⟨e0, e1, G⟩ := id HI.out
        replace G := Hd G
        generalize l[k] = d at *
        go_wp2_with fail
        go_ret
        exact ⟨by rw [E.out]; rfl, by first | exact Go.below_drewN (by go_grown) _ | go_grown⟩
      · have t2 := decide_eq_false q1
        by_cases q2 : n ≤ l[k].pk
        · have t3 := decide_eq_true q2
          have E := Hd (HGO.out.2 (by rw [Pl.needI_high hlt2 q2]; decide))
          rw [Pl.needI_high hlt2 q2] at E
          clear q1 q2
          clear HGO hu HF hk
          clear HAT
          obtain ⟨e0, e1, G⟩ := id HI.out
          replace G := Hd G
          generalize l[k] = d at *
          go_wp2_with fail
          go_ret
          exact ⟨by rw [E.out]; rfl, by first | exact Go.below_drewN (by go_grown) _ | go_grown⟩
        · have t3 := decide_eq_false q2
          by_cases c3 : (Pl.rngF l[k].rg).1 = 0
          · have RX := Hd (Pl.rngF_ne c3)
            by_cases h0 : k = 0
            · have t5 : decide (0 < k) = false := by simp; omega
              have t6 : decide ((0 : Int) < (k : Int)) = false := by simp; omega
              have E := Hd (HGO.out.1 (Pl.needI_first hlt2 (by omega) (by omega) (Pl.rngF_ne c3) h0))
              clear q1 q2 c3 h0
              clear HGO hu HF hk
              clear HAT
              obtain ⟨e0, e1, G⟩ := id HI.out
              replace G := Hd G
              generalize l[k] = d at *
              go_wp2_with fail
              refine (rngValidate_any d.rg a1 c1 _ (G.out.bl (by go_grown))).mono ?_
              rintro e w2 ⟨rfl, hb⟩
              rw [RX.out]
              simp only [fltV]
              have hW : Below wr.heap.size wr w2 := bcall (by go_grown) hb (by simp)
              have B2 := bcm w hb
              have q2 : wr.heap.size + 1 ≤ w2.heap.size := qle hb
              replace G := Hd ((G.out.al _).bl hb)
              have Y := ((bkn wr.heap.size [.int .i64 d.pk, .slice a1 d.rg.length c1] 84)).bw hb
              clear hb
              have s2 := B2.size
              have ⟨Yc, Yf, Yl⟩ := Y
              clear e0 e1
              have hbl : b < w2.heap.size := by omega
              clear hW HI
              go_wp2_with fail
              go_quiet (fail)
              go_wp2_with fail
              go_roundw
              case rel => exact ⟨k + 1, hlt2, by go_num, E, by first | exact Go.below_drewN (by go_grown) _ | go_grown⟩
              case measure => simp [intOf]; omega
            · have hpos : 0 < k := by omega
              by_cases q3 : l[k].pk ≤ (l[k - 1]'(by omega)).pk
              · have t7 := decide_eq_true q3
                have E := Hd (HGO.out.2 (by rw [Pl.needI_bad hlt2 (by omega) (by omega) (Pl.rngF_ne c3) hpos q3]; decide))
                rw [Pl.needI_bad hlt2 (by omega) (by omega) (Pl.rngF_ne c3) hpos q3] at E
                clear q1 q2 c3 h0 q3
                clear HGO hu HF hk
                obtain ⟨a2, c2, P⟩ := HAT.out (k - 1) (by omega)
                obtain ⟨i1, i2, i3, i4, i5, i6, i7⟩ := idx_prev hpos hlt2 (by omega)
                have HP := Hd P
                clear P
                obtain ⟨p, hp⟩ : ∃ p, l[k - 1]'(by omega) = p := ⟨_, rfl⟩
                rw [hp] at HP t7
                clear hp
                clear HAT
                obtain ⟨e0, e1, G⟩ := id HI.out
                replace G := Hd G
                generalize l[k] = d at *
                go_wp2_with fail
                refine (rngValidate_any d.rg a1 c1 _ (G.out.bl (by go_grown))).mono ?_
                rintro e w2 ⟨rfl, hb⟩
                rw [RX.out]
                simp only [fltV]
                have hW : Below wr.heap.size wr w2 := bcall (by go_grown) hb (by simp)
                have B2 := bcm w hb
                have q2 : wr.heap.size + 1 ≤ w2.heap.size := qle hb
                replace G := Hd ((G.out.al _).bl hb)
                have Y := ((bkn wr.heap.size [.int .i64 d.pk, .slice a1 d.rg.length c1] 84)).bw hb
                clear hb
                have s2 := B2.size
                have ⟨Yc, Yf, Yl⟩ := Y
                clear e0 e1
                obtain ⟨p0, p1, -⟩ := HP.out.below hW hlt nle
                have hbl : b < w2.heap.size := by omega
                clear hW HI
                clear HP
                go_wp2_with fail
                go_quiet (fail)
                go_wp2_with fail
                go_ret
                exact ⟨by rw [E.out]; rfl, by first | exact Go.below_drewN (by go_grown) _ | go_grown⟩
              · have t7 := decide_eq_false q3
                have E := Hd (HGO.out.1 (Pl.needI_good hlt2 (by omega) (by omega) (Pl.rngF_ne c3) hpos (by omega)))
                clear q1 q2 c3 h0 q3
                clear HGO hu HF hk
                obtain ⟨a2, c2, P⟩ := HAT.out (k - 1) (by omega)
                obtain ⟨i1, i2, i3, i4, i5, i6, i7⟩ := idx_prev hpos hlt2 (by omega)
                have HP := Hd P
                clear P
                obtain ⟨p, hp⟩ : ∃ p, l[k - 1]'(by omega) = p := ⟨_, rfl⟩
                rw [hp] at HP t7
                clear hp
                clear HAT
                obtain ⟨e0, e1, G⟩ := id HI.out
                replace G := Hd G
                generalize l[k] = d at *
                go_wp2_with fail
                refine (rngValidate_any d.rg a1 c1 _ (G.out.bl (by go_grown))).mono ?_
                rintro e w2 ⟨rfl, hb⟩
                rw [RX.out]
                simp only [fltV]
                have hW : Below wr.heap.size wr w2 := bcall (by go_grown) hb (by simp)
                have B2 := bcm w hb
                have q2 : wr.heap.size + 1 ≤ w2.heap.size := qle hb
                replace G := Hd ((G.out.al _).bl hb)
                have Y := ((bkn wr.heap.size [.int .i64 d.pk, .slice a1 d.rg.length c1] 84)).bw hb
                clear hb
                have s2 := B2.size
                have ⟨Yc, Yf, Yl⟩ := Y
                clear e0 e1
                obtain ⟨p0, p1, -⟩ := HP.out.below hW hlt nle
                have hbl : b < w2.heap.size := by omega
                clear hW HI
                clear HP
                go_wp2_with fail
                go_quiet (fail)
                go_wp2_with fail
                go_roundw
                case rel => exact ⟨k + 1, hlt2, by go_num, E, by first | exact Go.below_drewN (by go_grown) _ | go_grown⟩
                case measure => simp [intOf]; omega
          · obtain ⟨X, hX⟩ : ∃ X, Pl.rngF l[k].rg = X := ⟨_, rfl⟩
            obtain ⟨x1, x2⟩ := X
            have RX := Hd hX
            have t8 : (x1 == 0) = false := beqF (by rw [hX] at c3; exact c3)
            have t9 : (x1 != 0) = true := bneT (by rw [hX] at c3; exact c3)
            have E := Hd (HGO.out.2 (by rw [Pl.needI_rng hlt2 (by omega) (by omega) c3]; exact c3))
            rw [Pl.needI_rng hlt2 (by omega) (by omega) c3] at E
            rw [hX] at E
            clear q1 q2 c3 hX
            clear HGO hu HF hk
            clear HAT
            obtain ⟨e0, e1, G⟩ := id HI.out
            replace G := Hd G
            generalize l[k] = d at *
            go_wp2_with fail
            refine (rngValidate_any d.rg a1 c1 _ (G.out.bl (by go_grown))).mono ?_
            rintro e w2 ⟨rfl, hb⟩
            rw [RX.out]
            simp only [fltV]
            have hW : Below wr.heap.size wr w2 := bcall (by go_grown) hb (by simp)
            have B2 := bcm w hb
            have q2 : wr.heap.size + 1 ≤ w2.heap.size := qle hb
            replace G := Hd ((G.out.al _).bl hb)
            have Y := ((bkn wr.heap.size [.int .i64 d.pk, .slice a1 d.rg.length c1] 84)).bw hb
            clear hb
            have s2 := B2.size
            have ⟨Yc, Yf, Yl⟩ := Y
            clear e0 e1
            have hbl : b < w2.heap.size := by omega
            clear hW HI
            go_wp2_with fail
            go_ret
            exact ⟨by rw [E.out]; rfl, by first | exact Go.below_drewN (by go_grown) _ | go_grown⟩
    · have E := Hd (Pl.codeAt_end (by omega) hu.out)
      have t2 : decide ((k : Int) < (l.length : Int)) = false := by simp; omega
      have t3 : decide (k < l.length) = false := by simp; omega
      go_wp2_with fail
      go_ret
      exact ⟨by rw [E.out]; rfl, by go_grown⟩
end
end Go.Proofs.YtolfgcoalihmgaaGreatDoor
