/- Contract of the reference: the fault of a range. -/
import Derived.Test.YtolfgcoalihmgaaGreatDoorZMEa
import Derived.Test.YtolfgcoalihmgaaGreatDoorZEz
namespace Go.Proofs.YtolfgcoalihmgaaGreatDoor
open Go.RowKit
namespace Pl
theorem zero_same (v : Ver) : sameB v Ver.zero = zeroB v := by
 cases h : zeroB v with
 | true => exact sameB_iff.2 (zeroB_iff.1 h)
 | false => exact sameB_false fun e => by rw [zeroB_iff.2 e] at h; cases h
theorem steps_at {r : List Ivl} {k : Nat} {F : Int × Int} (hk : k < r.length) (hu : stepsF r k = F ∧ ChkTo r k) :
 (∀ C, chkI r[k] = C → C ≠ 0 → F = (C, (k : Int))) ∧ (chkI r[k] = 0 → k = 0 → stepsF r (k + 1) = F ∧ ChkTo r (k + 1)) ∧
 ∀ hpos : 0 < k, chkI r[k] = 0 → (badI (r[k - 1]'(by omega)) r[k] = true → F = (5, (k : Int))) ∧ (badI (r[k - 1]'(by omega)) r[k] = false → stepsF r (k + 1) = F ∧ ChkTo r (k + 1)) := by
 have g := stepsF_go hk hu.1
 refine ⟨fun C e c0 => ?_, fun e h0 => ⟨g.1 (step_first e h0), hu.2.succ e⟩, fun hpos e => ⟨fun hb => ?_, fun hb => ⟨g.1 ?_, hu.2.succ e⟩⟩⟩
 · have h := g.2 (by rw [step_bad e c0]; exact c0)
   rw [step_bad e c0] at h
   exact h
 · have hs := step_next (h := hk) e hpos
   have h := g.2 (by rw [hs, if_pos hb]; decide)
   rw [hs, if_pos hb] at h
   exact h
 · rw [step_next (h := hk) e hpos, if_neg (by rw [hb]; decide)]
end Pl
set_option maxRecDepth 100000 in
set_option maxHeartbeats 16000000 in
theorem RangeFault_any (r : List Pl.Ivl) (a : Option Addr) (c : Nat) (w : World) (h : RIn w r a c) :
 Calls Tryz.prog 29 #[.agg #[.slice a r.length c]] w fun e w' => e = .returned (fltV (Pl.rngF r)) ∧ Below w.heap.size w w' := by
 have hm := h.len
 obtain ⟨F, hF⟩ : ∃ F, Pl.rngF r = F := ⟨_, rfl⟩
 rw [hF]
 by_cases hn : 12 < r.length
 · have e := Pl.rngF_big hn hF
   subst e
   have t1 : decide ((12 : Int) < (r.length : Int)) = true := decT (by omega)
   have H := Hd h
   clear hF hn h
   go_enter Tryz.func29, Tryz.ntmps29
   have B0 := brl w
   go_wp2_with fail
   refine (rfault_any 2 (-1) _).mono ?_
   rintro e w1 ⟨rfl, hb⟩
   have B1 := bcm w hb
   have q1 : w.heap.size + 2 ≤ w1.heap.size := qle hb
   replace H := Hd (((H.out.al _).al _).bl hb)
   have X := (((bkn w.heap.size [.slice a r.length c] 33).alloc _)).bw hb
   have R := ((bkn (w.heap.size + 1) [.int .i64 0, .int .i64 0] 27)).bw hb
   clear hb
   have s1 := B1.size
   have ⟨Xc, Xf, Xl⟩ := X
   have ⟨Rc, Rf, Rl⟩ := R
   go_wp2_with fail
   have RN := ((R.st 0 (.int .i64 (2))).st 1 (.int .i64 (-1)))
   obtain ⟨RNc, RNf, RNl⟩ := RN
   refine bodyPost_ret (v := .agg #[.int .i64 (2), .int .i64 (-1)]) (by simp [results, Tryz.results29, go_sem, RNc]) rfl ⟨rfl, by go_grown⟩
 · have HF := Hd (Pl.rngF_small (show r.length ≤ 12 by omega) hF)
   have t1 : decide ((12 : Int) < (r.length : Int)) = false := decF (by omega)
   clear hF hn
   have H := Hd h
   clear h
   go_enter Tryz.func29, Tryz.ntmps29
   go_wp2_with fail
   have X := Bk.new (r := w.heap.size) (cs := [.slice a r.length c]) w 33 rfl
   have R := Bk.new (r := w.heap.size + 1) (cs := [.int .i64 0, .int .i64 0]) (w.alloc (.cells #[.slice a r.length c] 33)) 27 (by simp)
   replace X := X.alloc (.cells #[.int .i64 0, .int .i64 0] 27)
   have B0 : Below w.heap.size w ((w.alloc (.cells #[.slice a r.length c] 33)).alloc (.cells #[.int .i64 0, .int .i64 0] 27)) := by go_grown
   go_loopw [3] (fun i wr => ∃ k : Nat, k ≤ r.length ∧ i = .int .i64 k ∧ Hid (Pl.stepsF r k = F ∧ Pl.ChkTo r k) ∧ Bk wr w.heap.size [.slice a r.length c] ∧ Bk wr (w.heap.size + 1) [.int .i64 0, .int .i64 0] ∧ Below w.heap.size w wr) (fun i _ => r.length - (intOf i).toNat)
   case atStart => exact ⟨0, Nat.zero_le _, rfl, Hd ⟨HF.out, Pl.ChkTo.zero r⟩, X, R, B0⟩
   case round =>
    clear X R B0
    obtain ⟨k, hk, rfl, hu, X, R, B1⟩ := hrel
    have s1 := B1.size
    have zR := R.lt
    by_cases hlt2 : k < r.length
    · obtain ⟨b, off, rfl, hlt, hat⟩ := (H.out.bl B1).at (by omega)
      obtain ⟨a1, b1, c1, d1, I⟩ := hat k hlt2
      have ST := Hd (Pl.steps_at hlt2 hu.out)
      have HU := Hd hu.out.2
      have HAT := Hd (RAt.mk hlt hat)
      have t9 : decide ((k : Int) < (r.length : Int)) = true := decT (by omega)
      clear hat hu
      obtain ⟨e0, e1, e2, e3, e4, e5, e6, e7, e8, VA, VB⟩ := I
      replace VA := Hd VA
      replace VB := Hd VB
      have HX : Hid (r[k]? = some r[k]) := Hd (List.getElem?_eq_getElem hlt2)
      obtain ⟨x, hx⟩ : ∃ x, r[k] = x := ⟨_, rfl⟩
      have STB := Hd ST.out.1
      rw [hx] at STB ST e0 e1 e2 e3 e4 e5 e6 e7 e8 VA VB
      clear hx HX
      have CA := Hd (fun (W : World) (g : VIn W x.lo a1 c1) => VersionFault_any x.lo a1 c1 W g)
      have CB := Hd (fun (W : World) (g : VIn W x.hi b1 d1) => VersionFault_any x.hi b1 d1 W g)
      by_cases v1 : (Pl.vrF x.lo).1 = 0
      · have CO := Hd (fun (W : World) (h2 : (Pl.vrF x.hi).1 = 0) (g1 : VIn W x.lo a1 c1) (g2 : VIn W x.hi b1 d1) => VersionOrder_any x.lo x.hi a1 b1 c1 d1 W (VOk.of g1 (Pl.vr_ok v1)) (VOk.of g2 (Pl.vr_ok h2)))
        have CK : Hid (Pl.chkI x = if x.un = true then (if Pl.zeroB x.hi = true then 0 else 5) else if (Pl.vrF x.hi).1 ≠ 0 then (Pl.vrF x.hi).1 else if 0 ≤ Pl.verCmp x.lo x.hi then 5 else 0) := Hd (by unfold Pl.chkI; rw [if_neg (fun h => h v1)])
        rw [Pl.vr_zero v1] at CA
        simp only [fltV] at CA
        have hu : x.un = true ∨ x.un = false := by cases x.un <;> simp
        rcases hu with hu | hu
        · have CS := Hd (fun (W : World) (g : VIn W x.hi b1 d1) => SameVersion_any x.hi Pl.Ver.zero b1 none d1 0 W g (VIn.zero _))
          rw [Pl.zero_same] at CS
          cases hz : Pl.zeroB x.hi with
          | false =>
            rw [hz] at CS
            have E := Hd (STB.out 5 (by rw [CK.out, if_pos hu, hz]; rfl) (by decide))
            rw [hu] at e8
            clear v1 CO CK CB ST STB HAT HU hu hz H
            have ⟨Xc, Xf, Xl⟩ := X
            have ⟨Rc, Rf, Rl⟩ := R
            go_wp2_with fail
            refine (CA.out _ (VA.out.bl (by go_grown))).mono ?_
            rintro e w2 ⟨rfl, hb⟩
            have B2 := bcm w hb
            have q2 : wr.heap.size + 1 ≤ w2.heap.size := qle hb
            replace VA := Hd ((VA.out.al _).bl hb)
            replace VB := Hd ((VB.out.al _).bl hb)
            replace X := ((X.alloc _)).bw hb
            replace R := ((R.alloc _)).bw hb
            have Y := ((bkn wr.heap.size [.int .i64 x.lo.maj, .int .i64 x.lo.min, .int .i64 x.lo.pat, .slice a1 x.lo.pre.length c1, .int .i64 x.hi.maj, .int .i64 x.hi.min, .int .i64 x.hi.pat, .slice b1 x.hi.pre.length d1, .bool true] 101)).bw hb
            clear hb
            have s2 := B2.size
            clear Xc Xf Xl Rc Rf Rl
            have ⟨Xc, Xf, Xl⟩ := X
            have ⟨Rc, Rf, Rl⟩ := R
            have ⟨Yc, Yf, Yl⟩ := Y
            clear e0 e1 e2 e3 e4 e5 e6 e7 e8
            go_wp2_with fail
            refine (CS.out _ (VB.out.bl (by go_grown))).mono ?_
            rintro e w3 ⟨rfl, hb⟩
            have B3 := bcm w hb
            have q3 : w2.heap.size + 1 ≤ w3.heap.size := qle hb
            replace VA := Hd ((VA.out.al _).bl hb)
            replace VB := Hd ((VB.out.al _).bl hb)
            replace X := ((X.alloc _)).bw hb
            replace R := ((R.alloc _)).bw hb
            replace Y := ((Y.alloc _)).bw hb
            have Z := ((bkn w2.heap.size [.int .i64 0, .int .i64 0] 27)).bw hb
            clear hb
            have s3 := B3.size
            clear Xc Xf Xl Rc Rf Rl Yc Yf Yl
            have ⟨Xc, Xf, Xl⟩ := X
            have ⟨Rc, Rf, Rl⟩ := R
            have ⟨Yc, Yf, Yl⟩ := Y
            have ⟨Zc, Zf, Zl⟩ := Z
            go_wp2_with fail
            refine (rfault_any 5 k _).mono ?_
            rintro e w4 ⟨rfl, hb⟩
            have B4 := bcm w hb
            have q4 : w3.heap.size ≤ w4.heap.size := qle hb
            replace VA := Hd (VA.out.bl hb)
            replace VB := Hd (VB.out.bl hb)
            replace X := X.bw hb
            replace R := R.bw hb
            replace Y := Y.bw hb
            replace Z := Z.bw hb
            clear hb
            have s4 := B4.size
            clear Xc Xf Xl Rc Rf Rl Yc Yf Yl Zc Zf Zl
            have ⟨Xc, Xf, Xl⟩ := X
            have ⟨Rc, Rf, Rl⟩ := R
            have ⟨Yc, Yf, Yl⟩ := Y
            have ⟨Zc, Zf, Zl⟩ := Z
            go_wp2_with fail
            have RN := ((R.st 0 (.int .i64 (5))).st 1 (.int .i64 (k)))
            obtain ⟨RNc, RNf, RNl⟩ := RN
            refine bodyPost_ret (v := .agg #[.int .i64 (5), .int .i64 (k)]) (by simp [results, Tryz.results29, go_sem, RNc]) rfl ⟨by rw [E.out], by go_grown⟩
          | true =>
            rw [hz] at CS
            have C0 := Hd (show Pl.chkI x = 0 by rw [CK.out, if_pos hu, hz]; rfl)
            have OX := Hd (Pl.chkI_ok.1 C0.out)
            rw [hu] at e8
            clear v1 CO CK CB STB hu hz H
            have ⟨Xc, Xf, Xl⟩ := X
            have ⟨Rc, Rf, Rl⟩ := R
            go_wp2_with fail
            refine (CA.out _ (VA.out.bl (by go_grown))).mono ?_
            rintro e w2 ⟨rfl, hb⟩
            have B2 := bcm w hb
            have q2 : wr.heap.size + 1 ≤ w2.heap.size := qle hb
            replace VA := Hd ((VA.out.al _).bl hb)
            replace VB := Hd ((VB.out.al _).bl hb)
            replace HAT := Hd ((HAT.out.al _).bl hb)
            replace X := ((X.alloc _)).bw hb
            replace R := ((R.alloc _)).bw hb
            have Y := ((bkn wr.heap.size [.int .i64 x.lo.maj, .int .i64 x.lo.min, .int .i64 x.lo.pat, .slice a1 x.lo.pre.length c1, .int .i64 x.hi.maj, .int .i64 x.hi.min, .int .i64 x.hi.pat, .slice b1 x.hi.pre.length d1, .bool true] 101)).bw hb
            clear hb
            have s2 := B2.size
            clear Xc Xf Xl Rc Rf Rl
            have ⟨Xc, Xf, Xl⟩ := X
            have ⟨Rc, Rf, Rl⟩ := R
            have ⟨Yc, Yf, Yl⟩ := Y
            clear e0 e1 e2 e3 e4 e5 e6 e7 e8
            go_wp2_with fail
            refine (CS.out _ (VB.out.bl (by go_grown))).mono ?_
            rintro e w3 ⟨rfl, hb⟩
            have B3 := bcm w hb
            have q3 : w2.heap.size + 1 ≤ w3.heap.size := qle hb
            replace VA := Hd ((VA.out.al _).bl hb)
            replace VB := Hd ((VB.out.al _).bl hb)
            replace HAT := Hd ((HAT.out.al _).bl hb)
            replace X := ((X.alloc _)).bw hb
            replace R := ((R.alloc _)).bw hb
            replace Y := ((Y.alloc _)).bw hb
            have Z := ((bkn w2.heap.size [.int .i64 0, .int .i64 0] 27)).bw hb
            clear hb
            have s3 := B3.size
            clear Xc Xf Xl Rc Rf Rl Yc Yf Yl
            have ⟨Xc, Xf, Xl⟩ := X
            have ⟨Rc, Rf, Rl⟩ := R
            have ⟨Yc, Yf, Yl⟩ := Y
            have ⟨Zc, Zf, Zl⟩ := Z
            go_wp2_with fail
            by_cases h0 : k = 0
            · have E := Hd (ST.out.2.1 C0.out h0)
              have t6 : decide ((0 : Int) < (k : Int)) = false := decF (by omega)
              have t6n : decide (0 < k) = false := decF (by omega)
              clear ST HU HAT h0
              refine wp_region_ord [0, 1, 2, 3, 4, 5, 6, 7, 8, 9, 10, 11, 12, 13, 14, 15, 16, 17, 18, 19, 20, 21, 22, 23] (by kernel_rfl) (by kernel_rfl) ?_
              have B4 : Below w.heap.size w w3.drew := by go_grown
              have q4 : w3.heap.size ≤ w3.drew.heap.size := by simp only [World.size_drew]; omega
              replace VA := Hd (VA.out.bl (Below.refl _ _).drew)
              replace VB := Hd (VB.out.bl (Below.refl _ _).drew)
              replace X := X.drew
              replace R := R.drew
              replace Y := Y.drew
              replace Z := Z.drew
              clear Xc Xf Xl Rc Rf Rl Yc Yf Yl Zc Zf Zl
              generalize w3.drew = w4 at *
              have s4 := B4.size
              have ⟨Xc, Xf, Xl⟩ := X
              have ⟨Rc, Rf, Rl⟩ := R
              have ⟨Yc, Yf, Yl⟩ := Y
              have ⟨Zc, Zf, Zl⟩ := Z
              repeat (first | (refine wpI_rd rfl rfl ?_; go_big_quiet_step (fail); refine wpQuiet_nil ?_) | (refine wpI_skip rfl rfl ?_; try simp only [pts]))
              try simp only [pts]
              refine wpI_nil ?_
              try simp only [pts]
              go_wp2_with fail
              go_roundw
              case rel => exact ⟨k + 1, hlt2, by go_num, E, X, R, B4⟩
              case measure => simp [intOf]; omega
            · have hpos : 0 < k := by omega
              have t6 : decide ((0 : Int) < (k : Int)) = true := decT (by omega)
              replace ST := Hd (ST.out.2.2 hpos C0.out)
              have OKP := Hd (Pl.chkI_ok.1 (HU.out (k - 1) (by omega) (by omega)))
              obtain ⟨i1, i2, i3, i4, i5, i6, i7⟩ := idx_prev hpos hlt2 (by omega)
              obtain ⟨p, hp⟩ : ∃ p, r[k - 1]'(by omega) = p := ⟨_, rfl⟩
              rw [hp] at ST OKP
              have HQ := Hd hp
              clear hp HU
              cases hpu : p.un with
              | true =>
                have E := Hd (ST.out.1 (by unfold Pl.badI; rw [hpu]; rfl))
                have HPU := Hd hpu
                clear ST OKP hpu
                refine wp_region_ord [0, 1, 2, 3, 4, 5, 6, 7, 8, 9, 10, 11, 12, 13, 14, 15, 16, 17, 18, 19, 20, 21, 22, 23] (by kernel_rfl) (by kernel_rfl) ?_
                have B4 : Below w.heap.size w w3.drew := by go_grown
                have q4 : w3.heap.size ≤ w3.drew.heap.size := by simp only [World.size_drew]; omega
                replace VA := Hd (VA.out.bl (Below.refl _ _).drew)
                replace VB := Hd (VB.out.bl (Below.refl _ _).drew)
                replace HAT := Hd (HAT.out.bl (Below.refl _ _).drew)
                replace X := X.drew
                replace R := R.drew
                replace Y := Y.drew
                replace Z := Z.drew
                clear Xc Xf Xl Rc Rf Rl Yc Yf Yl Zc Zf Zl
                generalize w3.drew = w4 at *
                have s4 := B4.size
                have ⟨Xc, Xf, Xl⟩ := X
                have ⟨Rc, Rf, Rl⟩ := R
                have ⟨Yc, Yf, Yl⟩ := Y
                have ⟨Zc, Zf, Zl⟩ := Z
                obtain ⟨a2, b2, c2, d2, P⟩ := HAT.out.iv (k - 1) (by omega)
                rw [HQ.out] at P
                obtain ⟨p0, p1, p2, p3, p4, p5, p6, p7, p8, PL, PH⟩ := P
                replace PH := Hd PH
                rw [HPU.out] at p8
                clear HAT
                repeat (first | (refine wpI_rd rfl rfl ?_; go_big_quiet_step (fail); refine wpQuiet_nil ?_) | (refine wpI_skip rfl rfl ?_; try simp only [pts]))
                try simp only [pts]
                refine wpI_nil ?_
                try simp only [pts]
                go_wp2_with fail
                refine (rfault_any 5 k _).mono ?_
                rintro e w5 ⟨rfl, hb⟩
                have B5 := bcm w hb
                have q5 : w4.heap.size ≤ w5.heap.size := qle hb
                replace VA := Hd (VA.out.bl hb)
                replace VB := Hd (VB.out.bl hb)
                replace PH := Hd (PH.out.bl hb)
                replace X := X.bw hb
                replace R := R.bw hb
                replace Y := Y.bw hb
                replace Z := Z.bw hb
                clear hb
                have s5 := B5.size
                clear Xc Xf Xl Rc Rf Rl Yc Yf Yl Zc Zf Zl
                have ⟨Xc, Xf, Xl⟩ := X
                have ⟨Rc, Rf, Rl⟩ := R
                have ⟨Yc, Yf, Yl⟩ := Y
                have ⟨Zc, Zf, Zl⟩ := Z
                go_wp2_with fail
                have RN := ((R.st 0 (.int .i64 (5))).st 1 (.int .i64 (k)))
                obtain ⟨RNc, RNf, RNl⟩ := RN
                refine bodyPost_ret (v := .agg #[.int .i64 (5), .int .i64 (k)]) (by simp [results, Tryz.results29, go_sem, RNc]) rfl ⟨by rw [E.out], by go_grown⟩
              | false =>
                have CQ := Hd (fun (W : World) (b2 : Option Addr) (d2 : Nat) (g1 : VIn W p.hi b2 d2) (g2 : VIn W x.lo a1 c1) => VersionOrder_any p.hi x.lo b2 a1 d2 c1 W (VOk.of g1 OKP.out.hi) (VOk.of g2 OX.out.lo))
                obtain ⟨K, hK⟩ : ∃ K, Pl.verCmp p.hi x.lo = K := ⟨_, rfl⟩
                rw [hK] at CQ
                have HPU := Hd hpu
                by_cases k0 : 0 ≤ K
                · have t8 := decT k0
                  have E := Hd (ST.out.1 (by unfold Pl.badI; rw [hpu, hK, decide_eq_true k0]; rfl))
                  clear ST OKP hpu hK k0
                  refine wp_region_ord [0, 1, 2, 3, 4, 5, 6, 7, 8, 9, 10, 11, 12, 13, 14, 15, 16, 17, 18, 19, 20, 21, 22, 23] (by kernel_rfl) (by kernel_rfl) ?_
                  have B4 : Below w.heap.size w w3.drew := by go_grown
                  have q4 : w3.heap.size ≤ w3.drew.heap.size := by simp only [World.size_drew]; omega
                  replace VA := Hd (VA.out.bl (Below.refl _ _).drew)
                  replace VB := Hd (VB.out.bl (Below.refl _ _).drew)
                  replace HAT := Hd (HAT.out.bl (Below.refl _ _).drew)
                  replace X := X.drew
                  replace R := R.drew
                  replace Y := Y.drew
                  replace Z := Z.drew
                  clear Xc Xf Xl Rc Rf Rl Yc Yf Yl Zc Zf Zl
                  generalize w3.drew = w4 at *
                  have s4 := B4.size
                  have ⟨Xc, Xf, Xl⟩ := X
                  have ⟨Rc, Rf, Rl⟩ := R
                  have ⟨Yc, Yf, Yl⟩ := Y
                  have ⟨Zc, Zf, Zl⟩ := Z
                  obtain ⟨a2, b2, c2, d2, P⟩ := HAT.out.iv (k - 1) (by omega)
                  rw [HQ.out] at P
                  obtain ⟨p0, p1, p2, p3, p4, p5, p6, p7, p8, PL, PH⟩ := P
                  replace PH := Hd PH
                  rw [HPU.out] at p8
                  clear HAT
                  repeat (first | (refine wpI_rd rfl rfl ?_; go_big_quiet_step (fail); refine wpQuiet_nil ?_) | (refine wpI_skip rfl rfl ?_; try simp only [pts]))
                  try simp only [pts]
                  refine wpI_call (f := 77) rfl rfl rfl (by simp [go_sem]; rfl) ?_
                  refine (CQ.out _ _ _ PH.out VA.out).mono ?_
                  rintro e w5 ⟨rfl, hb⟩
                  refine ⟨_, rfl, hb, ?_⟩
                  skip
                  have B5 := bcm w hb
                  have q5 : w4.heap.size ≤ w5.heap.size := qle hb
                  replace VA := Hd (VA.out.bl hb)
                  replace VB := Hd (VB.out.bl hb)
                  replace PH := Hd (PH.out.bl hb)
                  replace X := X.bw hb
                  replace R := R.bw hb
                  replace Y := Y.bw hb
                  replace Z := Z.bw hb
                  clear hb
                  have s5 := B5.size
                  clear Xc Xf Xl Rc Rf Rl Yc Yf Yl Zc Zf Zl
                  have ⟨Xc, Xf, Xl⟩ := X
                  have ⟨Rc, Rf, Rl⟩ := R
                  have ⟨Yc, Yf, Yl⟩ := Y
                  have ⟨Zc, Zf, Zl⟩ := Z
                  try simp only [pts]
                  clear p0 p1 p2 p3 p4 p5 p6 p7 p8 PL PH
                  repeat (first | (refine wpI_rd rfl rfl ?_; go_big_quiet_step (fail); refine wpQuiet_nil ?_) | (refine wpI_skip rfl rfl ?_; try simp only [pts]))
                  try simp only [pts]
                  refine wpI_nil ?_
                  try simp only [pts]
                  go_wp2_with fail
                  refine (rfault_any 5 k _).mono ?_
                  rintro e w6 ⟨rfl, hb⟩
                  have B6 := bcm w hb
                  have q6 : w5.heap.size ≤ w6.heap.size := qle hb
                  replace VA := Hd (VA.out.bl hb)
                  replace VB := Hd (VB.out.bl hb)
                  replace X := X.bw hb
                  replace R := R.bw hb
                  replace Y := Y.bw hb
                  replace Z := Z.bw hb
                  clear hb
                  have s6 := B6.size
                  clear Xc Xf Xl Rc Rf Rl Yc Yf Yl Zc Zf Zl
                  have ⟨Xc, Xf, Xl⟩ := X
                  have ⟨Rc, Rf, Rl⟩ := R
                  have ⟨Yc, Yf, Yl⟩ := Y
                  have ⟨Zc, Zf, Zl⟩ := Z
                  go_wp2_with fail
                  have RN := ((R.st 0 (.int .i64 (5))).st 1 (.int .i64 (k)))
                  obtain ⟨RNc, RNf, RNl⟩ := RN
                  refine bodyPost_ret (v := .agg #[.int .i64 (5), .int .i64 (k)]) (by simp [results, Tryz.results29, go_sem, RNc]) rfl ⟨by rw [E.out], by go_grown⟩
                · have t8 := decF k0
                  have E := Hd (ST.out.2 (by unfold Pl.badI; rw [hpu, hK, decide_eq_false k0]; rfl))
                  clear ST OKP hpu hK k0
                  refine wp_region_ord [0, 1, 2, 3, 4, 5, 6, 7, 8, 9, 10, 11, 12, 13, 14, 15, 16, 17, 18, 19, 20, 21, 22, 23] (by kernel_rfl) (by kernel_rfl) ?_
                  have B4 : Below w.heap.size w w3.drew := by go_grown
                  have q4 : w3.heap.size ≤ w3.drew.heap.size := by simp only [World.size_drew]; omega
                  replace VA := Hd (VA.out.bl (Below.refl _ _).drew)
                  replace VB := Hd (VB.out.bl (Below.refl _ _).drew)
                  replace HAT := Hd (HAT.out.bl (Below.refl _ _).drew)
                  replace X := X.drew
                  replace R := R.drew
                  replace Y := Y.drew
                  replace Z := Z.drew
                  clear Xc Xf Xl Rc Rf Rl Yc Yf Yl Zc Zf Zl
                  generalize w3.drew = w4 at *
                  have s4 := B4.size
                  have ⟨Xc, Xf, Xl⟩ := X
                  have ⟨Rc, Rf, Rl⟩ := R
                  have ⟨Yc, Yf, Yl⟩ := Y
                  have ⟨Zc, Zf, Zl⟩ := Z
                  obtain ⟨a2, b2, c2, d2, P⟩ := HAT.out.iv (k - 1) (by omega)
                  rw [HQ.out] at P
                  obtain ⟨p0, p1, p2, p3, p4, p5, p6, p7, p8, PL, PH⟩ := P
                  replace PH := Hd PH
                  rw [HPU.out] at p8
                  clear HAT
                  repeat (first | (refine wpI_rd rfl rfl ?_; go_big_quiet_step (fail); refine wpQuiet_nil ?_) | (refine wpI_skip rfl rfl ?_; try simp only [pts]))
                  try simp only [pts]
                  refine wpI_call (f := 77) rfl rfl rfl (by simp [go_sem]; rfl) ?_
                  refine (CQ.out _ _ _ PH.out VA.out).mono ?_
                  rintro e w5 ⟨rfl, hb⟩
                  refine ⟨_, rfl, hb, ?_⟩
                  skip
                  have B5 := bcm w hb
                  have q5 : w4.heap.size ≤ w5.heap.size := qle hb
                  replace VA := Hd (VA.out.bl hb)
                  replace VB := Hd (VB.out.bl hb)
                  replace PH := Hd (PH.out.bl hb)
                  replace X := X.bw hb
                  replace R := R.bw hb
                  replace Y := Y.bw hb
                  replace Z := Z.bw hb
                  clear hb
                  have s5 := B5.size
                  clear Xc Xf Xl Rc Rf Rl Yc Yf Yl Zc Zf Zl
                  have ⟨Xc, Xf, Xl⟩ := X
                  have ⟨Rc, Rf, Rl⟩ := R
                  have ⟨Yc, Yf, Yl⟩ := Y
                  have ⟨Zc, Zf, Zl⟩ := Z
                  try simp only [pts]
                  clear p0 p1 p2 p3 p4 p5 p6 p7 p8 PL PH
                  repeat (first | (refine wpI_rd rfl rfl ?_; go_big_quiet_step (fail); refine wpQuiet_nil ?_) | (refine wpI_skip rfl rfl ?_; try simp only [pts]))
                  try simp only [pts]
                  refine wpI_nil ?_
                  try simp only [pts]
                  go_wp2_with fail
                  go_roundw
                  case rel => exact ⟨k + 1, hlt2, by go_num, E, X, R, B5⟩
                  case measure => simp [intOf]; omega
        · have hnu : ¬ x.un = true := by rw [hu]; decide
          by_cases v2 : (Pl.vrF x.hi).1 = 0
          · rw [Pl.vr_zero v2] at CB
            simp only [fltV] at CB
            obtain ⟨K1, hK1⟩ : ∃ K, Pl.verCmp x.lo x.hi = K := ⟨_, rfl⟩
            replace CO := Hd (fun (W : World) (g1 : VIn W x.lo a1 c1) (g2 : VIn W x.hi b1 d1) => CO.out W v2 g1 g2)
            rw [hK1] at CO
            by_cases k1 : 0 ≤ K1
            · have E := Hd (STB.out 5 (by rw [CK.out, if_neg hnu, if_neg (fun h => h v2), hK1, if_pos k1]) (by decide))
              have t7 := decT k1
              rw [hu] at e8
              clear v1 v2 CK ST STB HAT HU hu hnu hK1 k1 H
              have ⟨Xc, Xf, Xl⟩ := X
              have ⟨Rc, Rf, Rl⟩ := R
              go_wp2_with fail
              refine (CA.out _ (VA.out.bl (by go_grown))).mono ?_
              rintro e w2 ⟨rfl, hb⟩
              have B2 := bcm w hb
              have q2 : wr.heap.size + 1 ≤ w2.heap.size := qle hb
              replace VA := Hd ((VA.out.al _).bl hb)
              replace VB := Hd ((VB.out.al _).bl hb)
              replace X := ((X.alloc _)).bw hb
              replace R := ((R.alloc _)).bw hb
              have Y := ((bkn wr.heap.size [.int .i64 x.lo.maj, .int .i64 x.lo.min, .int .i64 x.lo.pat, .slice a1 x.lo.pre.length c1, .int .i64 x.hi.maj, .int .i64 x.hi.min, .int .i64 x.hi.pat, .slice b1 x.hi.pre.length d1, .bool false] 101)).bw hb
              clear hb
              have s2 := B2.size
              clear Xc Xf Xl Rc Rf Rl
              have ⟨Xc, Xf, Xl⟩ := X
              have ⟨Rc, Rf, Rl⟩ := R
              have ⟨Yc, Yf, Yl⟩ := Y
              clear e0 e1 e2 e3 e4 e5 e6 e7 e8
              go_wp2_with fail
              refine (CB.out _ (VB.out.bl (by go_grown))).mono ?_
              rintro e w3 ⟨rfl, hb⟩
              have B3 := bcm w hb
              have q3 : w2.heap.size + 1 ≤ w3.heap.size := qle hb
              replace VA := Hd ((VA.out.al _).bl hb)
              replace VB := Hd ((VB.out.al _).bl hb)
              replace X := ((X.alloc _)).bw hb
              replace R := ((R.alloc _)).bw hb
              replace Y := ((Y.alloc _)).bw hb
              have Z := ((bkn w2.heap.size [.int .i64 0, .int .i64 0] 27)).bw hb
              clear hb
              have s3 := B3.size
              clear Xc Xf Xl Rc Rf Rl Yc Yf Yl
              have ⟨Xc, Xf, Xl⟩ := X
              have ⟨Rc, Rf, Rl⟩ := R
              have ⟨Yc, Yf, Yl⟩ := Y
              have ⟨Zc, Zf, Zl⟩ := Z
              go_wp2_with fail
              refine (CO.out _ (((VA.out.setNS (Z.c 0) (by nofun) _).setNS ((Z.st 0 (.int .i64 0)).c 1) (by nofun) _)) (((VB.out.setNS (Z.c 0) (by nofun) _).setNS ((Z.st 0 (.int .i64 0)).c 1) (by nofun) _))).mono ?_
              rintro e w4 ⟨rfl, hb⟩
              have B4 := bcm w hb
              have q4 : w3.heap.size ≤ w4.heap.size := qle hb
              replace VA := Hd (((VA.out.setNS (Z.c 0) (by nofun) _).setNS ((Z.st 0 (.int .i64 0)).c 1) (by nofun) _).bl hb)
              replace VB := Hd (((VB.out.setNS (Z.c 0) (by nofun) _).setNS ((Z.st 0 (.int .i64 0)).c 1) (by nofun) _).bl hb)
              replace X := (((X.fr w2.heap.size 0 (by omega) (.int .i64 0)).fr w2.heap.size 1 (by omega) (.int .i64 0))).bw hb
              replace R := (((R.fr w2.heap.size 0 (by omega) (.int .i64 0)).fr w2.heap.size 1 (by omega) (.int .i64 0))).bw hb
              replace Y := (((Y.fr w2.heap.size 0 (by omega) (.int .i64 0)).fr w2.heap.size 1 (by omega) (.int .i64 0))).bw hb
              replace Z := (((Z.st 0 (.int .i64 0)).st 1 (.int .i64 0))).bw hb
              clear hb
              have s4 := B4.size
              clear Xc Xf Xl Rc Rf Rl Yc Yf Yl Zc Zf Zl
              have ⟨Xc, Xf, Xl⟩ := X
              have ⟨Rc, Rf, Rl⟩ := R
              have ⟨Yc, Yf, Yl⟩ := Y
              have ⟨Zc, Zf, Zl⟩ := Z
              go_wp2_with fail
              refine (rfault_any 5 k _).mono ?_
              rintro e w5 ⟨rfl, hb⟩
              have B5 := bcm w hb
              have q5 : w4.heap.size ≤ w5.heap.size := qle hb
              replace VA := Hd (VA.out.bl hb)
              replace VB := Hd (VB.out.bl hb)
              replace X := X.bw hb
              replace R := R.bw hb
              replace Y := Y.bw hb
              replace Z := Z.bw hb
              clear hb
              have s5 := B5.size
              clear Xc Xf Xl Rc Rf Rl Yc Yf Yl Zc Zf Zl
              have ⟨Xc, Xf, Xl⟩ := X
              have ⟨Rc, Rf, Rl⟩ := R
              have ⟨Yc, Yf, Yl⟩ := Y
              have ⟨Zc, Zf, Zl⟩ := Z
              go_wp2_with fail
              have RN := ((R.st 0 (.int .i64 (5))).st 1 (.int .i64 (k)))
              obtain ⟨RNc, RNf, RNl⟩ := RN
              refine bodyPost_ret (v := .agg #[.int .i64 (5), .int .i64 (k)]) (by simp [results, Tryz.results29, go_sem, RNc]) rfl ⟨by rw [E.out], by go_grown⟩
            · have C0 := Hd (show Pl.chkI x = 0 by rw [CK.out, if_neg hnu, if_neg (fun h => h v2), hK1, if_neg k1])
              have OX := Hd (Pl.chkI_ok.1 C0.out)
              have t7 := decF k1
              rw [hu] at e8
              clear v1 v2 CK STB hu hnu hK1 k1 H
              have ⟨Xc, Xf, Xl⟩ := X
              have ⟨Rc, Rf, Rl⟩ := R
              go_wp2_with fail
              refine (CA.out _ (VA.out.bl (by go_grown))).mono ?_
              rintro e w2 ⟨rfl, hb⟩
              have B2 := bcm w hb
              have q2 : wr.heap.size + 1 ≤ w2.heap.size := qle hb
              replace VA := Hd ((VA.out.al _).bl hb)
              replace VB := Hd ((VB.out.al _).bl hb)
              replace HAT := Hd ((HAT.out.al _).bl hb)
              replace X := ((X.alloc _)).bw hb
              replace R := ((R.alloc _)).bw hb
              have Y := ((bkn wr.heap.size [.int .i64 x.lo.maj, .int .i64 x.lo.min, .int .i64 x.lo.pat, .slice a1 x.lo.pre.length c1, .int .i64 x.hi.maj, .int .i64 x.hi.min, .int .i64 x.hi.pat, .slice b1 x.hi.pre.length d1, .bool false] 101)).bw hb
              clear hb
              have s2 := B2.size
              clear Xc Xf Xl Rc Rf Rl
              have ⟨Xc, Xf, Xl⟩ := X
              have ⟨Rc, Rf, Rl⟩ := R
              have ⟨Yc, Yf, Yl⟩ := Y
              clear e0 e1 e2 e3 e4 e5 e6 e7 e8
              go_wp2_with fail
              refine (CB.out _ (VB.out.bl (by go_grown))).mono ?_
              rintro e w3 ⟨rfl, hb⟩
              have B3 := bcm w hb
              have q3 : w2.heap.size + 1 ≤ w3.heap.size := qle hb
              replace VA := Hd ((VA.out.al _).bl hb)
              replace VB := Hd ((VB.out.al _).bl hb)
              replace HAT := Hd ((HAT.out.al _).bl hb)
              replace X := ((X.alloc _)).bw hb
              replace R := ((R.alloc _)).bw hb
              replace Y := ((Y.alloc _)).bw hb
              have Z := ((bkn w2.heap.size [.int .i64 0, .int .i64 0] 27)).bw hb
              clear hb
              have s3 := B3.size
              clear Xc Xf Xl Rc Rf Rl Yc Yf Yl
              have ⟨Xc, Xf, Xl⟩ := X
              have ⟨Rc, Rf, Rl⟩ := R
              have ⟨Yc, Yf, Yl⟩ := Y
              have ⟨Zc, Zf, Zl⟩ := Z
              go_wp2_with fail
              refine (CO.out _ (((VA.out.setNS (Z.c 0) (by nofun) _).setNS ((Z.st 0 (.int .i64 0)).c 1) (by nofun) _)) (((VB.out.setNS (Z.c 0) (by nofun) _).setNS ((Z.st 0 (.int .i64 0)).c 1) (by nofun) _))).mono ?_
              rintro e w4 ⟨rfl, hb⟩
              have B4 := bcm w hb
              have q4 : w3.heap.size ≤ w4.heap.size := qle hb
              replace VA := Hd (((VA.out.setNS (Z.c 0) (by nofun) _).setNS ((Z.st 0 (.int .i64 0)).c 1) (by nofun) _).bl hb)
              replace VB := Hd (((VB.out.setNS (Z.c 0) (by nofun) _).setNS ((Z.st 0 (.int .i64 0)).c 1) (by nofun) _).bl hb)
              replace HAT := Hd (((HAT.out.far (by omega) (Z.c 0) (by nofun) (.int .i64 0)).far (by omega) ((Z.st 0 (.int .i64 0)).c 1) (by nofun) (.int .i64 0)).bl hb)
              replace X := (((X.fr w2.heap.size 0 (by omega) (.int .i64 0)).fr w2.heap.size 1 (by omega) (.int .i64 0))).bw hb
              replace R := (((R.fr w2.heap.size 0 (by omega) (.int .i64 0)).fr w2.heap.size 1 (by omega) (.int .i64 0))).bw hb
              replace Y := (((Y.fr w2.heap.size 0 (by omega) (.int .i64 0)).fr w2.heap.size 1 (by omega) (.int .i64 0))).bw hb
              replace Z := (((Z.st 0 (.int .i64 0)).st 1 (.int .i64 0))).bw hb
              clear hb
              have s4 := B4.size
              clear Xc Xf Xl Rc Rf Rl Yc Yf Yl Zc Zf Zl
              have ⟨Xc, Xf, Xl⟩ := X
              have ⟨Rc, Rf, Rl⟩ := R
              have ⟨Yc, Yf, Yl⟩ := Y
              have ⟨Zc, Zf, Zl⟩ := Z
              go_wp2_with fail
              by_cases h0 : k = 0
              · have E := Hd (ST.out.2.1 C0.out h0)
                have t6 : decide ((0 : Int) < (k : Int)) = false := decF (by omega)
                have t6n : decide (0 < k) = false := decF (by omega)
                clear ST HU HAT h0
                refine wp_region_ord [0, 1, 2, 3, 4, 5, 6, 7, 8, 9, 10, 11, 12, 13, 14, 15, 16, 17, 18, 19, 20, 21, 22, 23] (by kernel_rfl) (by kernel_rfl) ?_
                have B5 : Below w.heap.size w w4.drew := by go_grown
                have q5 : w4.heap.size ≤ w4.drew.heap.size := by simp only [World.size_drew]; omega
                replace VA := Hd (VA.out.bl (Below.refl _ _).drew)
                replace VB := Hd (VB.out.bl (Below.refl _ _).drew)
                replace X := X.drew
                replace R := R.drew
                replace Y := Y.drew
                replace Z := Z.drew
                clear Xc Xf Xl Rc Rf Rl Yc Yf Yl Zc Zf Zl
                generalize w4.drew = w5 at *
                have s5 := B5.size
                have ⟨Xc, Xf, Xl⟩ := X
                have ⟨Rc, Rf, Rl⟩ := R
                have ⟨Yc, Yf, Yl⟩ := Y
                have ⟨Zc, Zf, Zl⟩ := Z
                repeat (first | (refine wpI_rd rfl rfl ?_; go_big_quiet_step (fail); refine wpQuiet_nil ?_) | (refine wpI_skip rfl rfl ?_; try simp only [pts]))
                try simp only [pts]
                refine wpI_nil ?_
                try simp only [pts]
                go_wp2_with fail
                go_roundw
                case rel => exact ⟨k + 1, hlt2, by go_num, E, X, R, B5⟩
                case measure => simp [intOf]; omega
              · have hpos : 0 < k := by omega
                have t6 : decide ((0 : Int) < (k : Int)) = true := decT (by omega)
                replace ST := Hd (ST.out.2.2 hpos C0.out)
                have OKP := Hd (Pl.chkI_ok.1 (HU.out (k - 1) (by omega) (by omega)))
                obtain ⟨i1, i2, i3, i4, i5, i6, i7⟩ := idx_prev hpos hlt2 (by omega)
                obtain ⟨p, hp⟩ : ∃ p, r[k - 1]'(by omega) = p := ⟨_, rfl⟩
                rw [hp] at ST OKP
                have HQ := Hd hp
                clear hp HU
                cases hpu : p.un with
                | true =>
                  have E := Hd (ST.out.1 (by unfold Pl.badI; rw [hpu]; rfl))
                  have HPU := Hd hpu
                  clear ST OKP hpu
                  refine wp_region_ord [0, 1, 2, 3, 4, 5, 6, 7, 8, 9, 10, 11, 12, 13, 14, 15, 16, 17, 18, 19, 20, 21, 22, 23] (by kernel_rfl) (by kernel_rfl) ?_
                  have B5 : Below w.heap.size w w4.drew := by go_grown
                  have q5 : w4.heap.size ≤ w4.drew.heap.size := by simp only [World.size_drew]; omega
                  replace VA := Hd (VA.out.bl (Below.refl _ _).drew)
                  replace VB := Hd (VB.out.bl (Below.refl _ _).drew)
                  replace HAT := Hd (HAT.out.bl (Below.refl _ _).drew)
                  replace X := X.drew
                  replace R := R.drew
                  replace Y := Y.drew
                  replace Z := Z.drew
                  clear Xc Xf Xl Rc Rf Rl Yc Yf Yl Zc Zf Zl
                  generalize w4.drew = w5 at *
                  have s5 := B5.size
                  have ⟨Xc, Xf, Xl⟩ := X
                  have ⟨Rc, Rf, Rl⟩ := R
                  have ⟨Yc, Yf, Yl⟩ := Y
                  have ⟨Zc, Zf, Zl⟩ := Z
                  obtain ⟨a2, b2, c2, d2, P⟩ := HAT.out.iv (k - 1) (by omega)
                  rw [HQ.out] at P
                  obtain ⟨p0, p1, p2, p3, p4, p5, p6, p7, p8, PL, PH⟩ := P
                  replace PH := Hd PH
                  rw [HPU.out] at p8
                  clear HAT
                  repeat (first | (refine wpI_rd rfl rfl ?_; go_big_quiet_step (fail); refine wpQuiet_nil ?_) | (refine wpI_skip rfl rfl ?_; try simp only [pts]))
                  try simp only [pts]
                  refine wpI_nil ?_
                  try simp only [pts]
                  go_wp2_with fail
                  refine (rfault_any 5 k _).mono ?_
                  rintro e w6 ⟨rfl, hb⟩
                  have B6 := bcm w hb
                  have q6 : w5.heap.size ≤ w6.heap.size := qle hb
                  replace VA := Hd (VA.out.bl hb)
                  replace VB := Hd (VB.out.bl hb)
                  replace PH := Hd (PH.out.bl hb)
                  replace X := X.bw hb
                  replace R := R.bw hb
                  replace Y := Y.bw hb
                  replace Z := Z.bw hb
                  clear hb
                  have s6 := B6.size
                  clear Xc Xf Xl Rc Rf Rl Yc Yf Yl Zc Zf Zl
                  have ⟨Xc, Xf, Xl⟩ := X
                  have ⟨Rc, Rf, Rl⟩ := R
                  have ⟨Yc, Yf, Yl⟩ := Y
                  have ⟨Zc, Zf, Zl⟩ := Z
                  go_wp2_with fail
                  have RN := ((R.st 0 (.int .i64 (5))).st 1 (.int .i64 (k)))
                  obtain ⟨RNc, RNf, RNl⟩ := RN
                  refine bodyPost_ret (v := .agg #[.int .i64 (5), .int .i64 (k)]) (by simp [results, Tryz.results29, go_sem, RNc]) rfl ⟨by rw [E.out], by go_grown⟩
                | false =>
                  have CQ := Hd (fun (W : World) (b2 : Option Addr) (d2 : Nat) (g1 : VIn W p.hi b2 d2) (g2 : VIn W x.lo a1 c1) => VersionOrder_any p.hi x.lo b2 a1 d2 c1 W (VOk.of g1 OKP.out.hi) (VOk.of g2 OX.out.lo))
                  obtain ⟨K, hK⟩ : ∃ K, Pl.verCmp p.hi x.lo = K := ⟨_, rfl⟩
                  rw [hK] at CQ
                  have HPU := Hd hpu
                  by_cases k0 : 0 ≤ K
                  · have t8 := decT k0
                    have E := Hd (ST.out.1 (by unfold Pl.badI; rw [hpu, hK, decide_eq_true k0]; rfl))
                    clear ST OKP hpu hK k0
                    refine wp_region_ord [0, 1, 2, 3, 4, 5, 6, 7, 8, 9, 10, 11, 12, 13, 14, 15, 16, 17, 18, 19, 20, 21, 22, 23] (by kernel_rfl) (by kernel_rfl) ?_
                    have B5 : Below w.heap.size w w4.drew := by go_grown
                    have q5 : w4.heap.size ≤ w4.drew.heap.size := by simp only [World.size_drew]; omega
                    replace VA := Hd (VA.out.bl (Below.refl _ _).drew)
                    replace VB := Hd (VB.out.bl (Below.refl _ _).drew)
                    replace HAT := Hd (HAT.out.bl (Below.refl _ _).drew)
                    replace X := X.drew
                    replace R := R.drew
                    replace Y := Y.drew
                    replace Z := Z.drew
                    clear Xc Xf Xl Rc Rf Rl Yc Yf Yl Zc Zf Zl
                    generalize w4.drew = w5 at *
                    have s5 := B5.size
                    have ⟨Xc, Xf, Xl⟩ := X
                    have ⟨Rc, Rf, Rl⟩ := R
                    have ⟨Yc, Yf, Yl⟩ := Y
                    have ⟨Zc, Zf, Zl⟩ := Z
                    obtain ⟨a2, b2, c2, d2, P⟩ := HAT.out.iv (k - 1) (by omega)
                    rw [HQ.out] at P
                    obtain ⟨p0, p1, p2, p3, p4, p5, p6, p7, p8, PL, PH⟩ := P
                    replace PH := Hd PH
                    rw [HPU.out] at p8
                    clear HAT
                    repeat (first | (refine wpI_rd rfl rfl ?_; go_big_quiet_step (fail); refine wpQuiet_nil ?_) | (refine wpI_skip rfl rfl ?_; try simp only [pts]))
                    try simp only [pts]
                    refine wpI_call (f := 77) rfl rfl rfl (by simp [go_sem]; rfl) ?_
                    refine (CQ.out _ _ _ PH.out VA.out).mono ?_
                    rintro e w6 ⟨rfl, hb⟩
                    refine ⟨_, rfl, hb, ?_⟩
                    skip
                    have B6 := bcm w hb
                    have q6 : w5.heap.size ≤ w6.heap.size := qle hb
                    replace VA := Hd (VA.out.bl hb)
                    replace VB := Hd (VB.out.bl hb)
                    replace PH := Hd (PH.out.bl hb)
                    replace X := X.bw hb
                    replace R := R.bw hb
                    replace Y := Y.bw hb
                    replace Z := Z.bw hb
                    clear hb
                    have s6 := B6.size
                    clear Xc Xf Xl Rc Rf Rl Yc Yf Yl Zc Zf Zl
                    have ⟨Xc, Xf, Xl⟩ := X
                    have ⟨Rc, Rf, Rl⟩ := R
                    have ⟨Yc, Yf, Yl⟩ := Y
                    have ⟨Zc, Zf, Zl⟩ := Z
                    try simp only [pts]
                    clear p0 p1 p2 p3 p4 p5 p6 p7 p8 PL PH
                    repeat (first | (refine wpI_rd rfl rfl ?_; go_big_quiet_step (fail); refine wpQuiet_nil ?_) | (refine wpI_skip rfl rfl ?_; try simp only [pts]))
                    try simp only [pts]
                    refine wpI_nil ?_
                    try simp only [pts]
                    go_wp2_with fail
                    refine (rfault_any 5 k _).mono ?_
                    rintro e w7 ⟨rfl, hb⟩
                    have B7 := bcm w hb
                    have q7 : w6.heap.size ≤ w7.heap.size := qle hb
                    replace VA := Hd (VA.out.bl hb)
                    replace VB := Hd (VB.out.bl hb)
                    replace X := X.bw hb
                    replace R := R.bw hb
                    replace Y := Y.bw hb
                    replace Z := Z.bw hb
                    clear hb
                    have s7 := B7.size
                    clear Xc Xf Xl Rc Rf Rl Yc Yf Yl Zc Zf Zl
                    have ⟨Xc, Xf, Xl⟩ := X
                    have ⟨Rc, Rf, Rl⟩ := R
                    have ⟨Yc, Yf, Yl⟩ := Y
                    have ⟨Zc, Zf, Zl⟩ := Z
                    go_wp2_with fail
                    have RN := ((R.st 0 (.int .i64 (5))).st 1 (.int .i64 (k)))
                    obtain ⟨RNc, RNf, RNl⟩ := RN
                    refine bodyPost_ret (v := .agg #[.int .i64 (5), .int .i64 (k)]) (by simp [results, Tryz.results29, go_sem, RNc]) rfl ⟨by rw [E.out], by go_grown⟩
                  · have t8 := decF k0
                    have E := Hd (ST.out.2 (by unfold Pl.badI; rw [hpu, hK, decide_eq_false k0]; rfl))
                    clear ST OKP hpu hK k0
                    refine wp_region_ord [0, 1, 2, 3, 4, 5, 6, 7, 8, 9, 10, 11, 12, 13, 14, 15, 16, 17, 18, 19, 20, 21, 22, 23] (by kernel_rfl) (by kernel_rfl) ?_
                    have B5 : Below w.heap.size w w4.drew := by go_grown
                    have q5 : w4.heap.size ≤ w4.drew.heap.size := by simp only [World.size_drew]; omega
                    replace VA := Hd (VA.out.bl (Below.refl _ _).drew)
                    replace VB := Hd (VB.out.bl (Below.refl _ _).drew)
                    replace HAT := Hd (HAT.out.bl (Below.refl _ _).drew)
                    replace X := X.drew
                    replace R := R.drew
                    replace Y := Y.drew
                    replace Z := Z.drew
                    clear Xc Xf Xl Rc Rf Rl Yc Yf Yl Zc Zf Zl
                    generalize w4.drew = w5 at *
                    have s5 := B5.size
                    have ⟨Xc, Xf, Xl⟩ := X
                    have ⟨Rc, Rf, Rl⟩ := R
                    have ⟨Yc, Yf, Yl⟩ := Y
                    have ⟨Zc, Zf, Zl⟩ := Z
                    obtain ⟨a2, b2, c2, d2, P⟩ := HAT.out.iv (k - 1) (by omega)
                    rw [HQ.out] at P
                    obtain ⟨p0, p1, p2, p3, p4, p5, p6, p7, p8, PL, PH⟩ := P
                    replace PH := Hd PH
                    rw [HPU.out] at p8
                    clear HAT
                    repeat (first | (refine wpI_rd rfl rfl ?_; go_big_quiet_step (fail); refine wpQuiet_nil ?_) | (refine wpI_skip rfl rfl ?_; try simp only [pts]))
                    try simp only [pts]
                    refine wpI_call (f := 77) rfl rfl rfl (by simp [go_sem]; rfl) ?_
                    refine (CQ.out _ _ _ PH.out VA.out).mono ?_
                    rintro e w6 ⟨rfl, hb⟩
                    refine ⟨_, rfl, hb, ?_⟩
                    skip
                    have B6 := bcm w hb
                    have q6 : w5.heap.size ≤ w6.heap.size := qle hb
                    replace VA := Hd (VA.out.bl hb)
                    replace VB := Hd (VB.out.bl hb)
                    replace PH := Hd (PH.out.bl hb)
                    replace X := X.bw hb
                    replace R := R.bw hb
                    replace Y := Y.bw hb
                    replace Z := Z.bw hb
                    clear hb
                    have s6 := B6.size
                    clear Xc Xf Xl Rc Rf Rl Yc Yf Yl Zc Zf Zl
                    have ⟨Xc, Xf, Xl⟩ := X
                    have ⟨Rc, Rf, Rl⟩ := R
                    have ⟨Yc, Yf, Yl⟩ := Y
                    have ⟨Zc, Zf, Zl⟩ := Z
                    try simp only [pts]
                    clear p0 p1 p2 p3 p4 p5 p6 p7 p8 PL PH
                    repeat (first | (refine wpI_rd rfl rfl ?_; go_big_quiet_step (fail); refine wpQuiet_nil ?_) | (refine wpI_skip rfl rfl ?_; try simp only [pts]))
                    try simp only [pts]
                    refine wpI_nil ?_
                    try simp only [pts]
                    go_wp2_with fail
                    go_roundw
                    case rel => exact ⟨k + 1, hlt2, by go_num, E, X, R, B6⟩
                    case measure => simp [intOf]; omega
          · have E := Hd (STB.out _ (by rw [CK.out, if_neg hnu, if_pos v2]) v2)
            obtain ⟨G, hG⟩ : ∃ G, Pl.vrF x.hi = G := ⟨_, rfl⟩
            rw [hG] at CB E v2
            obtain ⟨f1, f2⟩ := G
            simp only [fltV] at CB
            replace E := Hd (show F = (f1, (k : Int)) from E.out)
            have u1 := bneT v2
            have u2 := beqF v2
            rw [hu] at e8
            clear v1 CO CK ST STB HAT HU hu hnu v2 hG H
            have ⟨Xc, Xf, Xl⟩ := X
            have ⟨Rc, Rf, Rl⟩ := R
            go_wp2_with fail
            refine (CA.out _ (VA.out.bl (by go_grown))).mono ?_
            rintro e w2 ⟨rfl, hb⟩
            have B2 := bcm w hb
            have q2 : wr.heap.size + 1 ≤ w2.heap.size := qle hb
            replace VA := Hd ((VA.out.al _).bl hb)
            replace VB := Hd ((VB.out.al _).bl hb)
            replace X := ((X.alloc _)).bw hb
            replace R := ((R.alloc _)).bw hb
            have Y := ((bkn wr.heap.size [.int .i64 x.lo.maj, .int .i64 x.lo.min, .int .i64 x.lo.pat, .slice a1 x.lo.pre.length c1, .int .i64 x.hi.maj, .int .i64 x.hi.min, .int .i64 x.hi.pat, .slice b1 x.hi.pre.length d1, .bool false] 101)).bw hb
            clear hb
            have s2 := B2.size
            clear Xc Xf Xl Rc Rf Rl
            have ⟨Xc, Xf, Xl⟩ := X
            have ⟨Rc, Rf, Rl⟩ := R
            have ⟨Yc, Yf, Yl⟩ := Y
            clear e0 e1 e2 e3 e4 e5 e6 e7 e8
            go_wp2_with fail
            refine (CB.out _ (VB.out.bl (by go_grown))).mono ?_
            rintro e w3 ⟨rfl, hb⟩
            have B3 := bcm w hb
            have q3 : w2.heap.size + 1 ≤ w3.heap.size := qle hb
            replace VA := Hd ((VA.out.al _).bl hb)
            replace VB := Hd ((VB.out.al _).bl hb)
            replace X := ((X.alloc _)).bw hb
            replace R := ((R.alloc _)).bw hb
            replace Y := ((Y.alloc _)).bw hb
            have Z := ((bkn w2.heap.size [.int .i64 0, .int .i64 0] 27)).bw hb
            clear hb
            have s3 := B3.size
            clear Xc Xf Xl Rc Rf Rl Yc Yf Yl
            have ⟨Xc, Xf, Xl⟩ := X
            have ⟨Rc, Rf, Rl⟩ := R
            have ⟨Yc, Yf, Yl⟩ := Y
            have ⟨Zc, Zf, Zl⟩ := Z
            go_wp2_with fail
            refine (rfault_any f1 k _).mono ?_
            rintro e w4 ⟨rfl, hb⟩
            have B4 := bcm w hb
            have q4 : w3.heap.size ≤ w4.heap.size := qle hb
            replace VA := Hd (((VA.out.setNS (Z.c 0) (by nofun) _).setNS ((Z.st 0 (.int .i64 f1)).c 1) (by nofun) _).bl hb)
            replace VB := Hd (((VB.out.setNS (Z.c 0) (by nofun) _).setNS ((Z.st 0 (.int .i64 f1)).c 1) (by nofun) _).bl hb)
            replace X := (((X.fr w2.heap.size 0 (by omega) (.int .i64 f1)).fr w2.heap.size 1 (by omega) (.int .i64 f2))).bw hb
            replace R := (((R.fr w2.heap.size 0 (by omega) (.int .i64 f1)).fr w2.heap.size 1 (by omega) (.int .i64 f2))).bw hb
            replace Y := (((Y.fr w2.heap.size 0 (by omega) (.int .i64 f1)).fr w2.heap.size 1 (by omega) (.int .i64 f2))).bw hb
            replace Z := (((Z.st 0 (.int .i64 f1)).st 1 (.int .i64 f2))).bw hb
            clear hb
            have s4 := B4.size
            clear Xc Xf Xl Rc Rf Rl Yc Yf Yl Zc Zf Zl
            have ⟨Xc, Xf, Xl⟩ := X
            have ⟨Rc, Rf, Rl⟩ := R
            have ⟨Yc, Yf, Yl⟩ := Y
            have ⟨Zc, Zf, Zl⟩ := Z
            go_wp2_with fail
            have RN := ((R.st 0 (.int .i64 (f1))).st 1 (.int .i64 (k)))
            obtain ⟨RNc, RNf, RNl⟩ := RN
            refine bodyPost_ret (v := .agg #[.int .i64 (f1), .int .i64 (k)]) (by simp [results, Tryz.results29, go_sem, RNc]) rfl ⟨by rw [E.out], by go_grown⟩
      · have E := Hd (STB.out _ (by unfold Pl.chkI; rw [if_pos v1]) v1)
        obtain ⟨G, hG⟩ : ∃ G, Pl.vrF x.lo = G := ⟨_, rfl⟩
        rw [hG] at CA E v1
        obtain ⟨f1, f2⟩ := G
        simp only [fltV] at CA
        replace E := Hd (show F = (f1, (k : Int)) from E.out)
        have u1 := bneT v1
        have u2 := beqF v1
        clear CB ST STB HAT HU v1 hG H
        have ⟨Xc, Xf, Xl⟩ := X
        have ⟨Rc, Rf, Rl⟩ := R
        go_wp2_with fail
        refine (CA.out _ (VA.out.bl (by go_grown))).mono ?_
        rintro e w2 ⟨rfl, hb⟩
        have B2 := bcm w hb
        have q2 : wr.heap.size + 1 ≤ w2.heap.size := qle hb
        replace VA := Hd ((VA.out.al _).bl hb)
        replace VB := Hd ((VB.out.al _).bl hb)
        replace X := ((X.alloc _)).bw hb
        replace R := ((R.alloc _)).bw hb
        have Y := ((bkn wr.heap.size [.int .i64 x.lo.maj, .int .i64 x.lo.min, .int .i64 x.lo.pat, .slice a1 x.lo.pre.length c1, .int .i64 x.hi.maj, .int .i64 x.hi.min, .int .i64 x.hi.pat, .slice b1 x.hi.pre.length d1, .bool x.un] 101)).bw hb
        clear hb
        have s2 := B2.size
        clear Xc Xf Xl Rc Rf Rl
        have ⟨Xc, Xf, Xl⟩ := X
        have ⟨Rc, Rf, Rl⟩ := R
        have ⟨Yc, Yf, Yl⟩ := Y
        clear e0 e1 e2 e3 e4 e5 e6 e7 e8
        go_wp2_with fail
        go_wp2_with fail
        refine (rfault_any f1 k _).mono ?_
        rintro e w3 ⟨rfl, hb⟩
        have B3 := bcm w hb
        have q3 : w2.heap.size + 1 ≤ w3.heap.size := qle hb
        replace VA := Hd ((VA.out.al _).bl hb)
        replace VB := Hd ((VB.out.al _).bl hb)
        replace X := ((X.alloc _)).bw hb
        replace R := ((R.alloc _)).bw hb
        replace Y := ((Y.alloc _)).bw hb
        have Z := ((bkn w2.heap.size [.int .i64 f1, .int .i64 f2] 27)).bw hb
        clear hb
        have s3 := B3.size
        clear Xc Xf Xl Rc Rf Rl Yc Yf Yl
        have ⟨Xc, Xf, Xl⟩ := X
        have ⟨Rc, Rf, Rl⟩ := R
        have ⟨Yc, Yf, Yl⟩ := Y
        have ⟨Zc, Zf, Zl⟩ := Z
        go_wp2_with fail
        have RN := ((R.st 0 (.int .i64 (f1))).st 1 (.int .i64 (k)))
        obtain ⟨RNc, RNf, RNl⟩ := RN
        refine bodyPost_ret (v := .agg #[.int .i64 (f1), .int .i64 (k)]) (by simp [results, Tryz.results29, go_sem, RNc]) rfl ⟨by rw [E.out], by go_grown⟩
    · have E := Hd (Pl.stepsF_end (by omega) hu.out.1)
      have ⟨Rc, Rf, Rl⟩ := R
      have ⟨Xc, Xf, Xl⟩ := X
      have t2 : decide ((k : Int) < (r.length : Int)) = false := decF (by omega)
      go_wp2_with fail
      have RN := (R.st 0 (.int .i64 0)).st 1 (.int .i64 0)
      obtain ⟨RNc, RNf, RNl⟩ := RN
      refine bodyPost_ret (v := .agg #[.int .i64 0, .int .i64 0]) (by simp [results, Tryz.results29, go_sem, RNc]) rfl ⟨by rw [E.out], by go_grown⟩
end Go.Proofs.YtolfgcoalihmgaaGreatDoor
