/- Texts joined. -/
import Derived.Test.YtolfgcoalihmgaaGreatDoorZMEa
import Derived.Test.YtolfgcoalihmgaaGreatDoorZMQi
import Derived.Test.YtolfgcoalihmgaaGreatDoorZMOc
import Derived.Test.YtolfgcoalihmgaaGreatDoorZMOq
import Derived.StillTailTactics
namespace Go.Proofs.YtolfgcoalihmgaaGreatDoor
section
open Go.RowKit
set_option maxHeartbeats 2000000 in
theorem RangeHas_any (r : List Pl.Ivl) (v : Pl.Ver) (a p : Option Addr) (c q : Nat) (w : World) (h : RIn w r a c) (h3 : VIn w v p q) (okr : ∀ x ∈ r, x.Ok) (okv : v.Ok) :
 Calls Tryz.prog 127 #[.agg #[.slice a r.length c], verV v p q] w fun e w' => e = .returned (.bool (Pl.hasB r v)) ∧ Below w.heap.size w w' := by
 have hm := h.len
 have H := Hd h
 have V := Hd h3
 have OK := Hd okr
 have OV := Hd okv
 obtain ⟨b, hb⟩ : ∃ b, Pl.hasB r v = b := ⟨_, rfl⟩
 rw [hb]
 have HB := Hd hb
 clear h h3 okr okv hb
 go_enter Tryz.func127, Tryz.ntmps127
 go_wp2_with fail
 have X := Bk.new (r := w.heap.size) (cs := [.slice a r.length c]) w 33 rfl
 have Y := Bk.new (r := w.heap.size + 1) (cs := [.int .i64 v.maj, .int .i64 v.min, .int .i64 v.pat, .slice p v.pre.length q]) (w.alloc (.cells #[.slice a r.length c] 33)) 24 (by simp)
 replace X := X.alloc (.cells #[.int .i64 v.maj, .int .i64 v.min, .int .i64 v.pat, .slice p v.pre.length q] 24)
 have B0 : Below w.heap.size w ((w.alloc (.cells #[.slice a r.length c] 33)).alloc (.cells #[.int .i64 v.maj, .int .i64 v.min, .int .i64 v.pat, .slice p v.pre.length q] 24)) := by go_grown
 go_loopw [5] (fun i wr => ∃ k : Nat, k ≤ r.length ∧ i = .int .i64 k ∧ Hid (Pl.NoTo r v k) ∧ Bk wr w.heap.size [.slice a r.length c] ∧ Bk wr (w.heap.size + 1) [.int .i64 v.maj, .int .i64 v.min, .int .i64 v.pat, .slice p v.pre.length q] ∧ Below w.heap.size w wr) (fun i _ => r.length - (intOf i).toNat)
 case atStart => exact ⟨0, Nat.zero_le _, rfl, Hd (fun _ _ h => absurd h (by omega)), X, Y, B0⟩
 case round =>
  clear X Y B0
  obtain ⟨k, hk, rfl, hu, X, Y, B1⟩ := hrel
  have s1 := B1.size
  by_cases hlt2 : k < r.length
  · have H2 := Hd (H.out.bl B1)
    have V2 := Hd (V.out.bl B1)
    have t5 : decide ((k : Int) < (r.length : Int)) = true := decT (by omega)
    have ⟨Xc, Xf, Xl⟩ := X
    have ⟨Yc, Yf, Yl⟩ := Y
    go_wp2_with fail
    refine wp_region_ord [0, 1, 2, 3, 4, 5, 6] (by kernel_rfl) (by kernel_rfl) ?_
    have B2 : Below w.heap.size w wr.drew := by go_grown
    have q2 : wr.heap.size ≤ wr.drew.heap.size := by simp only [World.size_drew]; omega
    replace H2 := Hd (H2.out.bl (Below.refl _ _).drew)
    replace V2 := Hd (V2.out.bl (Below.refl _ _).drew)
    replace X := X.drew
    replace Y := Y.drew
    clear Xc Xf Xl Yc Yf Yl
    generalize wr.drew = w2 at *
    have s2 := B2.size
    have ⟨Xc, Xf, Xl⟩ := X
    have ⟨Yc, Yf, Yl⟩ := Y
    obtain ⟨b0, off, rfl, hlt, hat⟩ := H2.out.at (by omega)
    obtain ⟨a1, b1, c1, d1, I⟩ := hat k hlt2
    have OX := Hd (OK.out _ (List.getElem_mem hlt2))
    have HT := Hd (Pl.has_at (v := v) hlt2)
    have HN := Hd (fun e => hu.out.succ (hk := hlt2) e)
    clear hat
    obtain ⟨e0, e1, e2, e3, e4, e5, e6, e7, e8, VL, VH⟩ := I
    have CX := Hd (within_any r[k] v a1 b1 p c1 d1 q w2 VL VH V2.out OX.out OV.out)
    obtain ⟨g, hg⟩ : ∃ g, Pl.inI r[k] v = g := ⟨_, rfl⟩
    rw [hg] at CX HT HN
    clear VL VH OX hg
    generalize r[k] = x at *
    repeat (refine wpI_rd rfl rfl ?_; go_big_quiet_step (fail); refine wpQuiet_nil ?_)
    try simp only [pts]
    refine wpI_call (f := 153) rfl rfl rfl (by simp [go_sem]; rfl) ?_
    refine (CX.out).mono ?_
    rintro e w3 ⟨rfl, hb⟩
    refine ⟨_, rfl, hb, ?_⟩
    skip
    have B3 := bcm w hb
    have q3 : w2.heap.size ≤ w3.heap.size := qle hb
    replace H2 := Hd (H2.out.bl hb)
    replace V2 := Hd (V2.out.bl hb)
    replace X := X.bw hb
    replace Y := Y.bw hb
    clear hb
    have s3 := B3.size
    clear Xc Xf Xl Yc Yf Yl
    have ⟨Xc, Xf, Xl⟩ := X
    have ⟨Yc, Yf, Yl⟩ := Y
    try simp only [pts]
    clear e0 e1 e2 e3 e4 e5 e6 e7 e8 CX
    refine wpI_nil ?_
    try simp only [pts]
    cases g with
    | true =>
      have E := Hd (HB.out.symm.trans (HT.out rfl))
      go_wp2_with fail
      go_ret
      exact ⟨ret_bool E.out.symm, B3⟩
    | false =>
      have E := Hd (HN.out rfl)
      clear HN HT
      go_wp2_with fail
      go_roundw
      case rel => exact ⟨k + 1, hlt2, by go_num, E, X, Y, B3⟩
      case measure => simp [intOf]; omega
  · have E := Hd (HB.out.symm.trans (hu.out.none (by omega)))
    have t5 : decide ((k : Int) < (r.length : Int)) = false := decF (by omega)
    have ⟨Xc, Xf, Xl⟩ := X
    go_wp2_with fail
    go_ret
    exact ⟨ret_bool E.out.symm, B1⟩
end
section
open Go.RowKit
theorem Pl.hasAt_get {u : Pl.Uni} {d : Pl.Need} {p k : Nat} (hp : d.pk = p) (h : p < u.length) (hk : k < u[p].length) : Pl.hasAt u d k = Pl.hasB d.rg u[p][k].v := by
 have e : d.at' = p := by unfold Pl.Need.at'; omega
 unfold Pl.hasAt
 rw [e, List.getElem?_eq_getElem h]
 simp only [List.getElem?_eq_getElem hk]
theorem Pl.sat_drop {u : Pl.Uni} {ch : List Int} {l : List Pl.Need} {k : Nat} (h : k < l.length) : Pl.sat1 u ch (l.drop k) = (Pl.satB u ch l[k] && Pl.sat1 u ch (l.drop (k + 1))) := by
 unfold Pl.sat1
 rw [List.drop_eq_getElem_cons h, List.all_cons]
theorem Pl.sat_end {u : Pl.Uni} {ch : List Int} {l : List Pl.Need} {k : Nat} (h : l.length ≤ k) : Pl.sat1 u ch (l.drop k) = true := by
 rw [List.drop_of_length_le h]; rfl
set_option maxRecDepth 100000 in
set_option maxHeartbeats 8000000 in
theorem satisfied_any (u : Pl.Uni) (l : List Pl.Need) (ch : List Int) (a b o : Option Addr) (c d m : Nat) (w : World) (h1 : UIn w u a c) (h2 : NsIn w l b d) (h3 : Sl w o ch.length m 1 (intVals ch)) (ok : Pl.UniOk u) (okl : Pl.NeedsOk u.length l) (okc : Pl.ChOk u ch) :
 Calls Tryz.prog 92 #[.agg #[.slice a u.length c], .slice b l.length d, .slice o ch.length m] w fun e w' => e = .returned (.bool (Pl.sat1 u ch l)) ∧ Below w.heap.size w w' := by
 obtain ⟨res, hres⟩ : ∃ r, Pl.sat1 u ch l = r := ⟨_, rfl⟩
 rw [hres]
 have RS := Hd hres
 have H := Hd h1
 have K := Hd h2
 have L := Hd h3
 have OK := Hd ok
 have OL := Hd okl
 have OC := Hd okc
 have hu6 := ok.len
 have hl4 := okl.len
 have HCU := Hd okc.len
 clear h1 h2 h3 ok okl okc hres
 go_enter Tryz.func92, Tryz.ntmps92
 go_wp2_with fail
 go_loopw [7] (fun i wr => ∃ k : Nat, k ≤ l.length ∧ i = .int .i64 k ∧ Hid (Pl.sat1 u ch (l.drop k) = res) ∧ Bk wr w.heap.size [.slice a u.length c] ∧ Below w.heap.size w wr) (fun i _ => l.length - (intOf i).toNat)
 case atStart => exact ⟨0, Nat.zero_le _, rfl, RS, Bk.new (cs := [.slice a u.length c]) _ _ rfl, by go_grown⟩
 case round =>
  obtain ⟨k, hk, rfl, ST, X, B9⟩ := hrel
  have s9 := B9.size
  have ⟨Xc, Xf, Xl⟩ := X
  by_cases hlt2 : k < l.length
  · have t1 : decide ((k : Int) < (l.length : Int)) = true := decT (by omega)
    have t1' : decide (k < l.length) = true := decT hlt2
    have i1 : (k : Int) < (l.length : Int) := by omega
    obtain ⟨bn, fn, rfl, hbn, hatn⟩ := (K.out.bl B9).at (by omega)
    obtain ⟨a1, c1, N0⟩ := hatn k hlt2
    have DP := OL.out.pk _ (List.getElem_mem hlt2)
    have OR := Hd (Pl.rng_okx (OL.out.rg _ (List.getElem_mem hlt2)))
    have SD := Hd ((Pl.sat_drop hlt2).symm.trans ST.out)
    clear hatn
    generalize l[k] = x at *
    obtain ⟨pn, hpn⟩ : ∃ pn : Nat, x.pk = pn := ⟨x.pk.toNat, by omega⟩
    have pL : pn < u.length := by omega
    have pC : pn < ch.length := by have := HCU.out; omega
    have pC' : (pn : Int) < (ch.length : Int) := by omega
    have pL' : (pn : Int) < (u.length : Int) := by omega
    obtain ⟨e0, e1, RI⟩ := N0
    rw [hpn] at e0
    obtain ⟨bc, fc, rfl, hbc, hatc⟩ := Sl.cellsAt (L.out.bl B9) (by omega)
    have y0 := hatc pn pC
    have HCH := OC.out.at' pn pC pL
    obtain ⟨y, hy⟩ : ∃ y, ch[pn] = y := ⟨_, rfl⟩
    rw [hy] at y0 HCH
    replace RI := Hd RI
    clear hatc DP
    by_cases hy0 : y < 0
    · have t3 := decT hy0
      have E : Hid (res = false) := Hd (by rw [← SD.out, Pl.satB_neg hpn pC (by rw [hy]; exact hy0)]; rfl)
      clear SD HCH RI OR
      go_wp2_with fail
      go_quiet (fail)
      go_wp2_with fail
      go_ret
      exact ⟨by rw [E.out]; rfl, by first | exact Go.below_drewN B9 _ | go_grown⟩
    · have t3 := decF hy0
      obtain ⟨yn, hyn⟩ : ∃ yn : Nat, y = yn := ⟨y.toNat, by omega⟩
      subst hyn
      have hkl : yn < u[pn].length := by omega
      have HG := Pl.hasAt_get hpn pL hkl
      have SB := Pl.satB_pos (u := u) hpn pC hy
      rw [HG] at SB
      have hr4 := (OK.out.rels _ (List.getElem_mem pL)).len
      have OV := Hd ((OK.out.rels _ (List.getElem_mem pL)).v _ (List.getElem_mem hkl))
      obtain ⟨bu, fu, rfl, hbu, hatu⟩ := (H.out.bl B9).at (by omega)
      obtain ⟨a5, c5, z0, RS5⟩ := hatu pn pL
      obtain ⟨br, fr, rfl, hbr, hatr⟩ := RS5.at (by omega)
      obtain ⟨a3, c3, a4, c4, r0, r1, r2, r3, r4, VI, -⟩ := hatr yn hkl
      have i2 : (yn : Int) < (u[pn].length : Int) := by omega
      replace VI := Hd VI
      obtain ⟨hv, hhv⟩ : ∃ hv, Pl.hasB x.rg u[pn][yn].v = hv := ⟨_, rfl⟩
      rw [hhv] at SB
      replace hhv := Hd hhv
      have E : Hid ((hv && Pl.sat1 u ch (l.drop (k + 1))) = res) := Hd (by rw [← SB]; exact SD.out)
      clear hatu hatr RS5 HG SB SD r4 HCH
      generalize u[pn][yn].v = vv at *
      generalize u[pn].length = nn at *
      go_wp2_with fail
      refine wp_region_ord [0, 1, 2, 3, 4, 5, 6, 7, 8, 9, 10, 11, 12, 13, 14, 15, 16, 17, 18, 19, 20, 21, 22, 23] (by kernel_rfl) (by kernel_rfl) ?_
      have B2 : Below w.heap.size w wr.drew := by go_grown
      have q2 : wr.heap.size ≤ wr.drew.heap.size := by simp only [World.size_drew]; omega
      replace RI := Hd (RI.out.bl (Below.refl _ _).drew)
      replace VI := Hd (VI.out.bl (Below.refl _ _).drew)
      replace X := X.drew
      replace e0 := (show (wr.drew).cell? ⟨bn, fn + k * 2, none⟩ = some (.int .i64 pn) from e0)
      replace e1 := (show (wr.drew).cell? ⟨bn, fn + k * 2 + 1, none⟩ = some (.slice a1 x.rg.length c1) from e1)
      replace z0 := (show (wr.drew).cell? ⟨bu, fu + pn, none⟩ = some (.slice (some ⟨br, fr, none⟩) nn c5) from z0)
      replace r0 := (show (wr.drew).cell? ⟨br, fr + yn * 5, none⟩ = some (.int .i64 vv.maj) from r0)
      replace r1 := (show (wr.drew).cell? ⟨br, fr + yn * 5 + 1, none⟩ = some (.int .i64 vv.min) from r1)
      replace r2 := (show (wr.drew).cell? ⟨br, fr + yn * 5 + 2, none⟩ = some (.int .i64 vv.pat) from r2)
      replace r3 := (show (wr.drew).cell? ⟨br, fr + yn * 5 + 3, none⟩ = some (.slice a3 vv.pre.length c3) from r3)
      replace hbn := (show bn < (wr.drew).heap.size from hbn)
      replace hbu := (show bu < (wr.drew).heap.size from hbu)
      replace hbr := (show br < (wr.drew).heap.size from hbr)
      clear Xc Xf Xl
      generalize wr.drew = w2 at *
      have s2 := B2.size
      have ⟨Xc, Xf, Xl⟩ := X
      repeat (first | (refine wpI_rd rfl rfl ?_; go_big_quiet_step (fail); refine wpQuiet_nil ?_) | (refine wpI_skip rfl rfl ?_; try simp only [pts]))
      try simp only [pts]
      refine wpI_call (f := 127) rfl rfl rfl (by simp [go_sem]; rfl) ?_
      refine (RangeHas_any x.rg vv a1 a3 c1 c3 _ RI.out VI.out OR.out OV.out).mono ?_
      rintro e w3 ⟨rfl, hb⟩
      rw [hhv.out]
      refine ⟨_, rfl, hb, ?_⟩
      skip
      have B3 := bcm w hb
      have q3 : w2.heap.size ≤ w3.heap.size := qle hb
      replace RI := Hd (RI.out.bl hb)
      replace VI := Hd (VI.out.bl hb)
      replace X := X.bw hb
      clear hb
      have s3 := B3.size
      clear Xc Xf Xl
      have ⟨Xc, Xf, Xl⟩ := X
      try simp only [pts]
      repeat (first | (refine wpI_rd rfl rfl ?_; go_big_quiet_step (fail); refine wpQuiet_nil ?_) | (refine wpI_skip rfl rfl ?_; try simp only [pts]))
      try simp only [pts]
      refine wpI_nil ?_
      try simp only [pts]
      clear e0 e1 z0 r0 r1 r2 r3 RI VI y0
      cases hv with
      | false =>
        have E2 : Hid (res = false) := Hd E.out.symm
        go_wp2_with fail
        go_ret
        exact ⟨by rw [E2.out]; rfl, by go_grown⟩
      | true =>
        replace E := Hd ((Bool.true_and _).symm.trans E.out)
        go_wp2_with fail
        go_roundw
        case rel => exact ⟨k + 1, hlt2, by go_num, E, X, B3⟩
        case measure => simp [intOf]; omega
  · have t1 : decide ((k : Int) < (l.length : Int)) = false := decF (by omega)
    have t1' : decide (k < l.length) = false := decF hlt2
    have E := Hd ((Pl.sat_end (u := u) (ch := ch) (l := l) (k := k) (by omega)).symm.trans ST.out)
    go_wp2_with fail
    go_ret
    exact ⟨by rw [← E.out]; rfl, B9⟩
theorem Pl.mark_step {S : List Bool} {l : List Pl.Need} {k : Nat} (h : k < l.length) : Pl.markL S (l.drop k) = Pl.markL (S.set l[k].at' true) (l.drop (k + 1)) := by
 unfold Pl.markL
 rw [List.drop_eq_getElem_cons h, List.foldl_cons]
set_option maxRecDepth 100000 in
set_option maxHeartbeats 4000000 in
theorem mark_any (l : List Pl.Need) (S : List Bool) (n g : Nat) (b : Option Addr) (d : Nat) (W0 w : World) (h2 : NsIn W0 l b d) (hw : Below W0.heap.size W0 w) (hg : W0.heap.size ≤ g) (hS : Bk w g (bools S)) (hn : S.length = n) (_ : n ≤ 6) (hl4 : l.length ≤ 4) (hp : ∀ x ∈ l, 0 ≤ x.pk ∧ x.pk < (n : Int)) :
 Calls Tryz.prog 93 #[.slice (some ⟨g, 0, none⟩) n n, .slice b l.length d] w fun e w' => e = .returned (.slice (some ⟨g, 0, none⟩) n n) ∧ Bk w' g (bools (Pl.markL S l)) ∧ w.grownBy w' (some g) ∧ Below W0.heap.size W0 w' := by
 obtain ⟨res, hres⟩ : ∃ r, Pl.markL S l = r := ⟨_, rfl⟩
 rw [hres]
 have RS := Hd hres
 have K := Hd h2
 have HP := Hd hp
 have HN := Hd hn
 clear h2 hp hres hn
 go_enter Tryz.func93, Tryz.ntmps93
 go_wp2_with fail
 go_loopw [5] (fun i wr => ∃ (k : Nat) (T : List Bool), k ≤ l.length ∧ i = .int .i64 k ∧ Hid (Pl.markL T (l.drop k) = res) ∧ Bk wr g (bools T) ∧ Hid (T.length = n) ∧ Hid (w.grownBy wr (some g)) ∧ Below W0.heap.size W0 wr) (fun i _ => l.length - (intOf i).toNat)
 case atStart => exact ⟨0, S, Nat.zero_le _, rfl, RS, hS, HN, Hd (World.grownBy.refl _ _), hw⟩
 case round =>
  obtain ⟨k, T, hk, rfl, ST, V, HT, GB, B9⟩ := hrel
  have s9 : W0.heap.size ≤ wr.heap.size := B9.size
  by_cases hlt2 : k < l.length
  · have t1 : decide ((k : Int) < (l.length : Int)) = true := decT (by omega)
    have t1' : decide (k < l.length) = true := decT hlt2
    have i1 : (k : Int) < (l.length : Int) := by omega
    obtain ⟨bn, fn, rfl, hbn, hatn⟩ := K.out.at (by omega)
    obtain ⟨a1, c1, N0⟩ := hatn k hlt2
    have e0 := (B9.cell (p := ⟨bn, fn + k * 2, none⟩) hbn).trans N0.e0
    have DP := HP.out _ (List.getElem_mem hlt2)
    have SD := Hd ((Pl.mark_step (S := T) hlt2).symm.trans ST.out)
    have hbw : bn < wr.heap.size := by omega
    clear hatn N0
    generalize l[k] = x at *
    obtain ⟨pn, hpn⟩ : ∃ pn : Nat, x.pk = pn := ⟨x.pk.toNat, by omega⟩
    have e : x.at' = pn := by unfold Pl.Need.at'; omega
    rw [hpn] at e0
    rw [e] at SD
    have pC : pn < n := by omega
    have pC' : (pn : Int) < (n : Int) := by omega
    have hTn := HT.out
    have v0 := V.c pn (bools_get (by omega))
    have v1 := V.f pn
    have vl := V.lt
    have V2 := V.set (k := pn) (by rw [bools_len]; omega) (.bool true)
    rw [bools_set] at V2
    have GB2 := Hd (grownBy_setB GB.out pn (.bool true))
    have HT2 : Hid ((T.set pn true).length = n) := Hd (by rw [List.length_set]; exact HT.out)
    clear hTn
    go_wp2_with fail
    go_roundw
    case rel => exact ⟨k + 1, T.set pn true, hlt2, by go_num, SD, V2, HT2, GB2, B9.setCell (p := ⟨g, pn, none⟩) hg _⟩
    case measure => simp [intOf]; omega
  · have t1 : decide ((k : Int) < (l.length : Int)) = false := decF (by omega)
    have t1' : decide (k < l.length) = false := decF hlt2
    rw [List.drop_of_length_le (by omega)] at ST
    have E : Hid (T = res) := Hd ST.out
    go_wp2_with fail
    go_ret
    exact ⟨rfl, by rw [← E.out]; exact V, GB.out, B9⟩
end
section
open Go.RowKit
theorem bools_rep (n : Nat) : bools (List.replicate n false) = List.replicate n (.bool false) := by unfold bools; rw [List.map_replicate]
theorem Pl.range_drop {n k : Nat} (h : k < n) : (List.range n).drop k = k :: (List.range n).drop (k + 1) := by
 rw [List.drop_eq_getElem_cons (by rw [List.length_range]; exact h), List.getElem_range]
theorem Pl.markP_step {u : Pl.Uni} {ch : List Int} {T : List Bool} {n k : Nat} (h : k < n) : ((List.range n).drop k).foldl (Pl.markP u ch) T = ((List.range n).drop (k + 1)).foldl (Pl.markP u ch) (Pl.markP u ch T k) := by
 rw [Pl.range_drop h, List.foldl_cons]
theorem Pl.markP_no {u : Pl.Uni} {ch : List Int} {T : List Bool} {k : Nat} (h : T.getD k false = false) : Pl.markP u ch T k = T := by unfold Pl.markP; rw [h]; rfl
theorem Pl.markP_neg {u : Pl.Uni} {ch : List Int} {T : List Bool} {k : Nat} (h : k < ch.length) (e : ch[k] < 0) : Pl.markP u ch T k = T := by
 unfold Pl.markP Pl.needsAt
 rw [Pl.numAt_get h, if_neg (by omega : ¬ 0 ≤ ch[k])]
 split <;> rfl
theorem Pl.markP_yes {u : Pl.Uni} {ch : List Int} {T : List Bool} {k m : Nat} (hT : T.getD k false = true) (h : k < ch.length) (e : ch[k] = m) (hp : k < u.length) (hk : m < u[k].length) : Pl.markP u ch T k = Pl.markL T u[k][m].ns := by
 unfold Pl.markP
 rw [if_pos hT, Pl.needsAt_get h e hp hk]
theorem Pl.markP_len (u : Pl.Uni) (ch : List Int) (S : List Bool) (p : Nat) : (Pl.markP u ch S p).length = S.length := by
 unfold Pl.markP
 split
 · exact Pl.markL_len _ _
 · rfl
theorem Pl.foldP_len (u : Pl.Uni) (ch : List Int) : ∀ (l : List Nat) (S : List Bool), (l.foldl (Pl.markP u ch) S).length = S.length
 | [], _ => rfl
 | p :: l, S => by rw [List.foldl_cons, Pl.foldP_len u ch l, Pl.markP_len]
theorem Pl.markR_len (u : Pl.Uni) (ch : List Int) (S : List Bool) : (Pl.markR u ch S).length = S.length := Pl.foldP_len u ch _ S
def Pl.endAt (u : Pl.Uni) (ch : List Int) (S : List Bool) (p : Nat) : Bool := !(decide (0 ≤ Pl.numAt ch p)) || (S.getD p false && Pl.sat1 u ch (Pl.needsAt u ch p))
theorem Pl.end_step {u : Pl.Uni} {ch : List Int} {S : List Bool} {n k : Nat} (h : k < n) : ((List.range n).drop k).all (Pl.endAt u ch S) = (Pl.endAt u ch S k && ((List.range n).drop (k + 1)).all (Pl.endAt u ch S)) := by
 rw [Pl.range_drop h, List.all_cons]
theorem Pl.endAt_neg {u : Pl.Uni} {ch : List Int} {S : List Bool} {k : Nat} (h : k < ch.length) (e : ch[k] < 0) : Pl.endAt u ch S k = true := by
 unfold Pl.endAt
 rw [Pl.numAt_get h, decF (by omega)]; rfl
theorem Pl.endAt_no {u : Pl.Uni} {ch : List Int} {S : List Bool} {k : Nat} (h : k < ch.length) (e : 0 ≤ ch[k]) (hs : S.getD k false = false) : Pl.endAt u ch S k = false := by
 unfold Pl.endAt
 rw [Pl.numAt_get h, decT e, hs]; rfl
theorem Pl.endAt_yes {u : Pl.Uni} {ch : List Int} {S : List Bool} {k m : Nat} (hs : S.getD k false = true) (h : k < ch.length) (e : ch[k] = m) (hp : k < u.length) (hk : m < u[k].length) : Pl.endAt u ch S k = Pl.sat1 u ch u[k][m].ns := by
 unfold Pl.endAt
 rw [Pl.needsAt_get h e hp hk, Pl.numAt_get h, decT (by omega), hs]; rfl
theorem UIn.rel {w : World} {u : Pl.Uni} {a : Option Addr} {c : Nat} (h : UIn w u a c) {p k : Nat} (hp : p < u.length) (hk : k < u[p].length) :
 ∃ bu fu br fr c5 a4 c4, a = some ⟨bu, fu, none⟩ ∧ bu < w.heap.size ∧ br < w.heap.size ∧ w.cell? ⟨bu, fu + p, none⟩ = some (.slice (some ⟨br, fr, none⟩) u[p].length c5) ∧ w.cell? ⟨br, fr + k * 5 + 4, none⟩ = some (.slice a4 u[p][k].ns.length c4) ∧ NsIn w u[p][k].ns a4 c4 := by
 obtain ⟨bu, fu, e, hbu, hat⟩ := h.at (by omega)
 obtain ⟨a5, c5, z0, R⟩ := hat p hp
 obtain ⟨br, fr, rfl, hbr, hatr⟩ := R.at (by omega)
 obtain ⟨a3, c3, a4, c4, r0, r1, r2, r3, r4, _, N⟩ := hatr k hk
 exact ⟨bu, fu, br, fr, c5, a4, c4, e, hbu, hbr, z0, r4, N⟩
set_option maxRecDepth 100000 in
set_option maxHeartbeats 16000000 in
theorem Solution_any (u : Pl.Uni) (ws : List Pl.Need) (ch : List Int) (a b o : Option Addr) (c d m : Nat) (w : World) (h1 : UIn w u a c) (h2 : NsIn w ws b d) (h3 : Sl w o ch.length m 1 (intVals ch)) (ok : Pl.UniOk u) (okw : Pl.NeedsOk u.length ws) (okc : Pl.ChOk u ch) :
 Calls Tryz.prog 42 #[.agg #[.slice a u.length c], .slice b ws.length d, .slice o ch.length m] w fun e w' => e = .returned (.bool (Pl.solR u ws ch)) ∧ Below w.heap.size w w' := by
 obtain ⟨res, hres⟩ : ∃ r, Pl.solR u ws ch = r := ⟨_, rfl⟩
 rw [hres]
 obtain ⟨sb, hs1⟩ : ∃ r, Pl.sat1 u ch ws = r := ⟨_, rfl⟩
 have RS := Hd hres
 unfold Pl.solR at RS
 rw [hs1] at RS
 have C1 := Hd (fun (W : World) (g1 : UIn W u a c) (g2 : NsIn W ws b d) (g3 : Sl W o ch.length m 1 (intVals ch)) => satisfied_any u ws ch a b o c d m W g1 g2 g3 ok okw okc)
 rw [hs1] at C1
 have C2 := Hd (fun (l : List Pl.Need) (b : Option Addr) (d : Nat) (W : World) (g1 : UIn W u a c) (g2 : NsIn W l b d) (g3 : Sl W o ch.length m 1 (intVals ch)) (okl : Pl.NeedsOk u.length l) => satisfied_any u l ch a b o c d m W g1 g2 g3 ok okl okc)
 have H := Hd h1
 have K := Hd h2
 have L := Hd h3
 have H0 := Hd h1
 have L0 := Hd h3
 have OK := Hd ok
 have OW := Hd okw
 have OC := Hd okc
 have HCU := Hd okc.len
 have hc6 : ch.length ≤ 6 := by rw [okc.len]; exact ok.len
 clear h1 h2 h3 ok okw okc hres hs1
 obtain ⟨n, hn⟩ : ∃ n, ch.length = n := ⟨_, rfl⟩
 have HN := Hd hn
 rw [hn] at C1 C2 L L0 HCU hc6 RS ⊢
 clear hn
 go_enter Tryz.func42, Tryz.ntmps42
 have B0 := brl w
 go_wp2_with fail
 refine (C1.out _ ((H.out.al _)) ((K.out.al _)) ((L.out.al _))).mono ?_
 rintro e w1 ⟨rfl, hb⟩
 have B1 := bcm w hb
 have q1 : w.heap.size + 1 ≤ w1.heap.size := qle hb
 replace H := Hd ((H.out.al _).bl hb)
 replace K := Hd ((K.out.al _).bl hb)
 replace L := Hd ((L.out.al _).bl hb)
 have X := ((bkn w.heap.size [.slice a u.length c] 56)).bw hb
 clear hb
 have s1 := B1.size
 have ⟨Xc, Xf, Xl⟩ := X
 cases sb with
 | false =>
   have E : Hid (res = false) := Hd RS.out.symm
   go_wp2_with fail
   go_ret
   exact ⟨by rw [E.out]; rfl, by go_grown⟩
 | true =>
   replace RS := Hd ((Bool.true_and _).symm.trans RS.out)
   go_wp2_with (at_make; go_loud (refine wp_makeZ (by rfl) (by rfl) Tryz.underlying121 (z0 := .bool false) (bytes := 1) ⟨_, _, rfl, rfl, rfl, rfl, rfl⟩ n (by rfl) (by rfl) (by omega) (Nat.le_trans hc6 (by decide)) ?_))
   have V0 : Bk (w1.alloc (.cells (Array.replicate n (.bool false)) 4)) w1.heap.size (List.replicate n (.bool false)) := Bk.new (cs := List.replicate n (.bool false)) _ _ rfl
   rw [← bools_rep] at V0
   have hpw : ∀ x ∈ ws, 0 ≤ x.pk ∧ x.pk < (n : Int) := fun x hx => by have := OW.out.pk x hx; have := HCU.out; omega
   refine (mark_any ws (List.replicate n false) n w1.heap.size b d w1 _ K.out (by go_grown) nle V0 (List.length_replicate ..) hc6 OW.out.len hpw).mono ?_
   rintro e w2 ⟨rfl, V, GB, hb⟩
   clear V0 hpw
   have B2 : Below w.heap.size w w2 := bcall B1 hb (by omega)
   have s2 := B2.size
   have hgl := V.lt
   replace X := X.below hb X.lt
   have hgX : w.heap.size < w1.heap.size := Xl
   clear Xc Xf Xl GB
   obtain ⟨g, hg⟩ : ∃ g, w1.heap.size = g := ⟨_, rfl⟩
   obtain ⟨S0, hS0⟩ : ∃ S, Pl.markL (List.replicate n false) ws = S := ⟨_, rfl⟩
   have hS0n : S0.length = n := by rw [← hS0, Pl.markL_len, List.length_replicate]
   rw [hS0] at V RS
   unfold Pl.endB at RS
   rw [HN.out] at RS
   rw [hg] at V hgl hgX ⊢
   clear hb hS0 hg H K L
   obtain ⟨S1, hS1⟩ : ∃ S, Pl.markN u ch n S0 = S := ⟨_, rfl⟩
   rw [hS1] at RS
   replace hS1 := Hd hS1
   go_wp2_with fail
   go_loopw [7, 8] (fun v i wr => ∃ (k : Nat) (T : List Bool), v = .slice (some ⟨g, 0, none⟩) n n ∧ k ≤ n ∧ i = .int .i64 k ∧ Hid (Pl.markN u ch (n - k) T = S1) ∧ Bk wr g (bools T) ∧ Hid (T.length = n) ∧ Bk wr w.heap.size [.slice a u.length c] ∧ Below w.heap.size w wr) (fun _ i _ => n - (intOf i).toNat)
   case atStart => exact ⟨0, S0, rfl, Nat.zero_le _, rfl, hS1, V, Hd hS0n, X, B2⟩
   case round =>
    obtain ⟨k, T, rfl, hk, rfl, MN, V, HT, X, B9⟩ := hrel
    have s9 := B9.size
    by_cases hlt : k < n
    · have t1 : decide ((k : Int) < (n : Int)) = true := decT (by omega)
      have t1' : decide (k < n) = true := decT hlt
      obtain ⟨T1, hT1⟩ : ∃ S, Pl.markR u ch T = S := ⟨_, rfl⟩
      have MN2 : Hid (Pl.markN u ch (n - (k + 1)) T1 = S1) := Hd (by
       have e : n - k = (n - (k + 1)) + 1 := by omega
       have h := MN.out
       rw [e] at h
       rw [← hT1]; exact h)
      have HT1 : Hid (T1.length = n) := Hd (by rw [← hT1, Pl.markR_len]; exact HT.out)
      unfold Pl.markR at hT1
      rw [HN.out] at hT1
      replace hT1 := Hd hT1
      have ⟨Xc, Xf, Xl⟩ := X
      clear MN
      go_wp2_with fail
      clear Xc Xf Xl
      go_loopw [7, 9] (fun v j wr => ∃ (p : Nat) (T : List Bool), v = .slice (some ⟨g, 0, none⟩) n n ∧ p ≤ n ∧ j = .int .i64 p ∧ Hid (((List.range n).drop p).foldl (Pl.markP u ch) T = T1) ∧ Bk wr g (bools T) ∧ Hid (T.length = n) ∧ Bk wr w.heap.size [.slice a u.length c] ∧ Below w.heap.size w wr) (fun _ j _ => n - (intOf j).toNat)
      case atStart => exact ⟨0, T, rfl, Nat.zero_le _, rfl, hT1, V, HT, X, B9⟩
      case round =>
       clear V HT X B9 s9
       obtain ⟨p, T, rfl, hp, rfl, MP, V, HT, X, B9⟩ := hrel
       have s9 := B9.size
       have ⟨Xc, Xf, Xl⟩ := X
       by_cases hlp : p < n
       · have t2 : decide ((p : Int) < (n : Int)) = true := decT (by omega)
         have t2' : decide (p < n) = true := decT hlp
         have i1 : (p : Int) < (n : Int) := by omega
         have v0 := V.c p (bools_get (by rw [HT.out]; exact hlp))
         have vl := V.lt
         have STP := Hd ((Pl.markP_step hlp).symm.trans MP.out)
         have hpc : p < ch.length := by rw [HN.out]; exact hlp
         have hpu : p < u.length := by have := HCU.out; omega
         have hpu' : (p : Int) < (u.length : Int) := by omega
         cases hr : T.getD p false with
         | false =>
           rw [hr] at v0
           have E := Hd (by have h := STP.out; rw [Pl.markP_no hr] at h; exact h)
           go_wp2_with fail
           go_roundw
           case rel => exact ⟨p + 1, T, rfl, hlp, by go_num, E, V, HT, X, B9⟩
           case measure => simp [intOf]; omega
         | true =>
           rw [hr] at v0
           have L9 := L0.out.bl B9
           rw [← HN.out] at L9
           obtain ⟨bc, fc, rfl, hbc, hatc⟩ := Sl.cellsAt L9 (by omega)
           have y0 := hatc p hpc
           have HCH := OC.out.at' p hpc hpu
           obtain ⟨y, hy⟩ : ∃ y, ch[p] = y := ⟨_, rfl⟩
           rw [hy] at y0 HCH
           clear hatc L9
           by_cases hy0 : y < 0
           · have t3 : decide (0 ≤ y) = false := decF (by omega)
             have t3' : decide (y ≥ 0) = false := decF (by omega)
             have E := Hd (by have h := STP.out; rw [Pl.markP_neg hpc (by rw [hy]; exact hy0)] at h; exact h)
             go_wp2_with fail
             go_roundw
             case rel => exact ⟨p + 1, T, rfl, hlp, by go_num, E, V, HT, X, B9⟩
             case measure => simp [intOf]; omega
           · have t3 : decide (0 ≤ y) = true := decT (by omega)
             have t3' : decide (y ≥ 0) = true := decT (by omega)
             obtain ⟨yn, hyn⟩ : ∃ yn : Nat, y = yn := ⟨y.toNat, by omega⟩
             subst hyn
             have hkl : yn < u[p].length := by omega
             have hkl' : (yn : Int) < (u[p].length : Int) := by omega
             have ON := OK.out.rels _ (List.getElem_mem hpu)
             have hr4 := ON.len
             have OKN := ON.ns _ (List.getElem_mem hkl)
             have hn4 := OKN.len
             have hpk : ∀ x ∈ u[p][yn].ns, 0 ≤ x.pk ∧ x.pk < (n : Int) := fun x hx => by have := OKN.pk x hx; have := HCU.out; omega
             obtain ⟨bu, fu, br, fr, c5, a4, c4, rfl, hbu, hbr, z0, r4, NS⟩ := H0.out.rel hpu hkl
             have E := Hd (by have h := STP.out; rw [Pl.markP_yes hr hpc hy hpu hkl] at h; exact h)
             replace z0 := (B9.cell (p := ⟨bu, fu + p, none⟩) hbu).trans z0
             replace r4 := (B9.cell (p := ⟨br, fr + yn * 5 + 4, none⟩) hbr).trans r4
             have hbu2 : bu < wr.heap.size := by omega
             have hbr2 : br < wr.heap.size := by omega
             have CM := Hd (fun (W : World) (hB : Below w.heap.size w W) (hV : Bk W g (bools T)) => mark_any u[p][yn].ns T n g a4 c4 w W NS hB (Nat.le_of_lt hgX) hV HT.out hc6 hn4 hpk)
             have HTn : Hid ((Pl.markL T u[p][yn].ns).length = n) := Hd (by rw [Pl.markL_len]; exact HT.out)
             clear ON OKN hpk NS STP MP HCH hy
             generalize u[p][yn].ns = ns at *
             generalize u[p].length = nn at *
             go_wp2_with fail
             go_still_tail 13, (by kernel_rfl)
             change wpList _ _ _ _ _ wr.drew
             have BD := B9.drew
             have VD := V.drew
             have XD := X.drew
             generalize wr.drew = w4 at *
             go_wp2_with fail
             refine (CM.out _ BD VD).mono ?_
             rintro e w5 ⟨rfl, V5, GB5, B5⟩
             have X5 := XD.grown GB5 (fun g' e => by cases e; omega)
             clear Xc Xf Xl v0 vl y0 z0 r4 hbu2 hbr2 CM
             have ⟨Xc, Xf, Xl⟩ := X5
             go_wp2_with fail
             go_roundw
             case rel => exact ⟨p + 1, Pl.markL T ns, rfl, hlp, by go_num, E, V5, HTn, X5, B5⟩
             case measure => simp [intOf]; omega
       · have t2 : decide ((p : Int) < (n : Int)) = false := decF (by omega)
         have t2' : decide (p < n) = false := decF hlp
         rw [List.drop_of_length_le (by rw [List.length_range]; omega)] at MP
         have E : Hid (T = T1) := Hd MP.out
         rw [E.out] at V
         go_wp2_with fail
         go_roundw
         case rel => exact ⟨k + 1, T1, rfl, hlt, by go_num, MN2, V, HT1, X, B9⟩
         case measure => simp [intOf]; omega
    · have t1 : decide ((k : Int) < (n : Int)) = false := decF (by omega)
      have t1' : decide (k < n) = false := decF hlt
      have E : Hid (T = S1) := Hd (by have h := MN.out; rw [show n - k = 0 by omega] at h; exact h)
      have ⟨Xc, Xf, Xl⟩ := X
      rw [E.out] at V HT
      clear MN
      go_wp2_with fail
      clear Xc Xf Xl
      go_loopw [10] (fun j wr => ∃ p : Nat, p ≤ n ∧ j = .int .i64 p ∧ Hid (((List.range n).drop p).all (Pl.endAt u ch S1) = res) ∧ Bk wr g (bools S1) ∧ Bk wr w.heap.size [.slice a u.length c] ∧ Below w.heap.size w wr) (fun j _ => n - (intOf j).toNat)
      case atStart => exact ⟨0, Nat.zero_le _, rfl, RS, V, X, B9⟩
      case round =>
       clear V X B9 s9
       obtain ⟨p, hp, rfl, ED, V, X, B9⟩ := hrel
       have s9 := B9.size
       have ⟨Xc, Xf, Xl⟩ := X
       by_cases hlp : p < n
       · have t2 : decide ((p : Int) < (n : Int)) = true := decT (by omega)
         have t2' : decide (p < n) = true := decT hlp
         have i1 : (p : Int) < (n : Int) := by omega
         have hpc : p < ch.length := by rw [HN.out]; exact hlp
         have hpu : p < u.length := by have := HCU.out; omega
         have hpu' : (p : Int) < (u.length : Int) := by omega
         have SD := Hd ((Pl.end_step hlp).symm.trans ED.out)
         have v0 := V.c p (bools_get (by rw [HT.out]; exact hlp))
         have vl := V.lt
         have L9 := L0.out.bl B9
         rw [← HN.out] at L9
         obtain ⟨bc, fc, rfl, hbc, hatc⟩ := Sl.cellsAt L9 (by omega)
         have y0 := hatc p hpc
         have HCH := OC.out.at' p hpc hpu
         obtain ⟨y, hy⟩ : ∃ y, ch[p] = y := ⟨_, rfl⟩
         rw [hy] at y0 HCH
         clear hatc L9
         by_cases hy0 : y < 0
         · have t3 : decide (0 ≤ y) = false := decF (by omega)
           have t3' : decide (y ≥ 0) = false := decF (by omega)
           have E := Hd (by have h := SD.out; rw [Pl.endAt_neg hpc (by rw [hy]; exact hy0), Bool.true_and] at h; exact h)
           go_wp2_with fail
           go_quiet (fail)
           go_wp2_with fail
           go_roundw
           case rel => exact ⟨p + 1, hlp, by go_num, E, V.drewN _, X.drewN _, Go.below_drewN B9 _⟩
           case measure => simp [intOf]; omega
         · have t3 : decide (0 ≤ y) = true := decT (by omega)
           have t3' : decide (y ≥ 0) = true := decT (by omega)
           cases hr : S1.getD p false with
           | false =>
             rw [hr] at v0
             have E : Hid (res = false) := Hd (by have h := SD.out; rw [Pl.endAt_no hpc (by rw [hy]; omega) hr, Bool.false_and] at h; exact h.symm)
             go_wp2_with fail
             go_quiet (fail)
             go_wp2_with fail
             go_ret
             exact ⟨by rw [E.out]; rfl, by first | exact Go.below_drewN B9 _ | go_grown⟩
           | true =>
             rw [hr] at v0
             obtain ⟨yn, hyn⟩ : ∃ yn : Nat, y = yn := ⟨y.toNat, by omega⟩
             subst hyn
             have hkl : yn < u[p].length := by omega
             have hkl' : (yn : Int) < (u[p].length : Int) := by omega
             have ON := OK.out.rels _ (List.getElem_mem hpu)
             have hr4 := ON.len
             have OKN := Hd (ON.ns _ (List.getElem_mem hkl))
             obtain ⟨bu, fu, br, fr, c5, a4, c4, rfl, hbu, hbr, z0, r4, NS⟩ := H0.out.rel hpu hkl
             obtain ⟨s2, hs2⟩ : ∃ s, Pl.sat1 u ch u[p][yn].ns = s := ⟨_, rfl⟩
             have E := Hd (by have h := SD.out; rw [Pl.endAt_yes hr hpc hy hpu hkl, hs2] at h; exact h)
             have CM := Hd (fun (W : World) (g1 : UIn W u (some ⟨bu, fu, none⟩) c) (g2 : NsIn W u[p][yn].ns a4 c4) (g3 : Sl W (some ⟨bc, fc, none⟩) n m 1 (intVals ch)) => C2.out u[p][yn].ns a4 c4 W g1 g2 g3 OKN.out)
             rw [hs2] at CM
             replace z0 := (B9.cell (p := ⟨bu, fu + p, none⟩) hbu).trans z0
             replace r4 := (B9.cell (p := ⟨br, fr + yn * 5 + 4, none⟩) hbr).trans r4
             have hbu2 : bu < wr.heap.size := by omega
             have hbr2 : br < wr.heap.size := by omega
             have hbc2 : bc < wr.heap.size := by omega
             replace NS := Hd (NS.bl B9)
             have U9 := Hd (H0.out.bl B9)
             have L9 := Hd (L0.out.bl B9)
             clear ON SD ED HCH hy hs2 hr
             generalize u[p][yn].ns = ns at *
             generalize u[p].length = nn at *
             have ⟨Vc, Vf, Vl⟩ := V
             clear Vf
             go_wp2_with fail
             clear Vc Vl
             refine wp_region_ord [0, 1, 2, 3, 4, 5, 6, 7, 8, 9, 10, 11, 12, 13, 14, 15, 16, 17, 18, 19, 20, 21, 22, 23, 24, 25, 26, 27, 28, 29] (by kernel_rfl) (by kernel_rfl) ?_
             have V4 := V.drew
             have X4 := X.drew
             have B4 := B9.drew
             replace NS := Hd (NS.out.bl (Below.refl _ _).drew)
             replace U9 := Hd (U9.out.bl (Below.refl _ _).drew)
             replace L9 := Hd (L9.out.bl (Below.refl _ _).drew)
             replace v0 : wr.drew.cell? ⟨g, p, none⟩ = some (.bool true) := v0
             replace y0 : wr.drew.cell? ⟨bc, fc + p, none⟩ = some (.int .i64 yn) := y0
             replace z0 : wr.drew.cell? ⟨bu, fu + p, none⟩ = some (.slice (some ⟨br, fr, none⟩) nn c5) := z0
             replace r4 : wr.drew.cell? ⟨br, fr + yn * 5 + 4, none⟩ = some (.slice a4 ns.length c4) := r4
             replace hbu2 : bu < wr.drew.heap.size := hbu2
             replace hbr2 : br < wr.drew.heap.size := hbr2
             replace hbc2 : bc < wr.drew.heap.size := hbc2
             replace vl : g < wr.drew.heap.size := vl
             clear Xc Xf Xl
             generalize wr.drew = w4 at *
             have ⟨Xc, Xf, Xl⟩ := X4
             repeat (first | (refine wpI_rd rfl rfl ?_; go_big_quiet_step (fail); refine wpQuiet_nil ?_) | (refine wpI_skip rfl rfl ?_; try simp only [pts]))
             try simp only [pts]
             refine wpI_call (f := 92) rfl rfl rfl (by simp [go_sem]; rfl) ?_
             refine (CM.out _ U9.out NS.out L9.out).mono ?_
             rintro e w5 ⟨rfl, hb⟩
             refine ⟨_, rfl, hb, ?_⟩
             have B5 := bcall B4 hb B4.size
             have X5 := X4.below hb X4.lt
             have V5 := V4.below hb V4.lt
             clear Xc Xf Xl v0 vl y0 z0 r4 hbu2 hbr2 hbc2 CM
             have ⟨Xc, Xf, Xl⟩ := X5
             try simp only [pts]
             repeat (first | (refine wpI_rd rfl rfl ?_; go_big_quiet_step (fail); refine wpQuiet_nil ?_) | (refine wpI_skip rfl rfl ?_; try simp only [pts]))
             try simp only [pts]
             refine wpI_nil ?_
             try simp only [pts]
             cases s2 with
             | false =>
               have E2 : Hid (res = false) := Hd E.out.symm
               go_wp2_with fail
               go_ret
               exact ⟨by rw [E2.out]; rfl, by go_grown⟩
             | true =>
               replace E := Hd ((Bool.true_and _).symm.trans E.out)
               go_wp2_with fail
               go_roundw
               case rel => exact ⟨p + 1, hlp, by go_num, E, V5, X5, B5⟩
               case measure => simp [intOf]; omega
       · have t2 : decide ((p : Int) < (n : Int)) = false := decF (by omega)
         have t2' : decide (p < n) = false := decF hlp
         rw [List.drop_of_length_le (by rw [List.length_range]; omega)] at ED
         have E : Hid (res = true) := Hd ED.out.symm
         go_wp2_with fail
         go_ret
         exact ⟨by rw [E.out]; rfl, B9⟩
end
end Go.Proofs.YtolfgcoalihmgaaGreatDoor
