/- Texts joined. -/
import Derived.Test.YtolfgcoalihmgaaGreatDoorZMOc
import Derived.Test.YtolfgcoalihmgaaGreatDoorZMDf
namespace Go.Proofs.YtolfgcoalihmgaaGreatDoor
section
open Go.RowKit
set_option maxRecDepth 100000 in
set_option maxHeartbeats 4000000 in
theorem sRels_any (l : List Pl.Rel) (a : Option Addr) (c : Nat) (n : Int) (w : World) (h : RsIn w l a c) :
 Calls Tryz.prog 86 #[.slice a l.length c, .int .i64 n] w fun e w' => e = .returned (.int .i64 (Pl.relsC n l)) ∧ Below w.heap.size w w' := by
 have hm := h.len
 obtain ⟨C, hC⟩ : ∃ C, Pl.relsC n l = C := ⟨_, rfl⟩
 rw [hC]
 have H := Hd h
 clear h
 by_cases hn : 4 < l.length
 · have E : C = 2 := by rw [← hC]; unfold Pl.relsC; rw [if_pos hn]
   subst E
   have t1 : decide ((4 : Int) < (l.length : Int)) = true := by simp; omega
   clear hC hn
   go_enter Tryz.func86, Tryz.ntmps86
   go_wp2_with fail
   go_ret
   exact ⟨rfl, Below.refl _ _⟩
 · obtain ⟨F, hF⟩ : ∃ F, Pl.codeAt (Pl.relI n l) l.length 0 = F := ⟨_, rfl⟩
   have E : C = F.1 := by rw [← hC, ← hF]; unfold Pl.relsC; rw [if_neg hn]
   subst E
   have HF := Hd (Pl.CodeTo.zero hF)
   have t1 : decide ((4 : Int) < (l.length : Int)) = false := by simp; omega
   clear hC hF hn
   go_enter Tryz.func86, Tryz.ntmps86
   go_wp2_with fail
   go_loopw [14] (fun i wr => ∃ k : Nat, k ≤ l.length ∧ i = .int .i64 k ∧ Hid (Pl.CodeTo (Pl.relI n l) l.length k F) ∧ Below w.heap.size w wr) (fun i _ => l.length - (intOf i).toNat)
   case atStart => exact ⟨0, Nat.zero_le _, rfl, HF, Below.refl _ _⟩
   case round =>
    obtain ⟨k, hk, rfl, hu, B1⟩ := hrel
    have s1 := B1.size
    by_cases hlt2 : k < l.length
    · obtain ⟨b, off, rfl, hlt, hat⟩ := (H.out.bl B1).at (by omega)
      obtain ⟨a1, c1, a2, c2, I⟩ := hat k hlt2
      have HGO := Hd (Pl.CodeTo.go hlt2 hu.out)
      have HAT := Hd hat
      have HI := Hd I
      clear hat I
      have tz : decide (k < l.length) = true := by simp; omega
      have ty : decide ((k : Int) < (l.length : Int)) = true := by simp; omega
      by_cases c3 : (Pl.vrF l[k].v).1 = 0
      · have RX := Hd (Pl.vr_zero c3)
        by_cases h0 : k = 0
        · have t5 : decide (0 < k) = false := by simp; omega
          have t6 : decide ((0 : Int) < (k : Int)) = false := by simp; omega
          by_cases q4 : Pl.needsC n l[k].ns = 0
          · skip
            have E := Hd (HGO.out.1 (by rw [Pl.relI_n0 hlt2 (Pl.vr_zero c3) h0]; exact q4))
            obtain ⟨D, hD⟩ : ∃ D, Pl.needsC n l[k].ns = D := ⟨_, rfl⟩
            rw [hD] at q4
            subst q4
            have HD := Hd hD
            clear hD
            clear HGO hu HF hk c3 h0
            clear HAT
            obtain ⟨e0, e1, e2, e3, e4, V, N⟩ := id HI.out
            replace V := Hd V
            replace N := Hd N
            generalize l[k] = d at *
            go_wp2_with fail
            refine (Validate_any d.v a1 c1 _ (V.out.bl (by go_grown))).mono ?_
            rintro e w2 ⟨rfl, hb⟩
            rw [RX.out]
            simp only [fltV]
            have hW : Below wr.heap.size wr w2 := bcall (by go_grown) hb (by simp)
            have hbl : b < w2.heap.size := by have := hW.size; omega
            have B2 := bcm w hb
            have q2 : wr.heap.size + 1 ≤ w2.heap.size := qle hb
            replace V := Hd ((V.out.al _).bl hb)
            replace N := Hd ((N.out.al _).bl hb)
            have Y := ((bkn wr.heap.size [.int .i64 d.v.maj, .int .i64 d.v.min, .int .i64 d.v.pat, .slice a1 d.v.pre.length c1, .slice a2 d.ns.length c2] 75)).bw hb
            clear hb
            have s2 := B2.size
            have ⟨Yc, Yf, Yl⟩ := Y
            clear e0 e1 e2 e3 e4
            go_wp2_with fail
            clear hbl
            refine wp_region_ord [0, 1, 2, 3, 4, 5, 6, 7, 8, 9, 10, 11, 12, 13] (by kernel_rfl) (by kernel_rfl) ?_
            have B3 : Below w.heap.size w (w2.alloc (.cells #[.int .i64 0, .int .i64 0] 27)).drew := by go_grown
            have q3 : w2.heap.size + 1 ≤ (w2.alloc (.cells #[.int .i64 0, .int .i64 0] 27)).drew.heap.size := by simp only [World.size_alloc, World.size_drew]; omega
            replace V := Hd ((V.out.al (.cells #[.int .i64 0, .int .i64 0] 27)).bl (Below.refl _ _).drew)
            replace N := Hd ((N.out.al (.cells #[.int .i64 0, .int .i64 0] 27)).bl (Below.refl _ _).drew)
            replace Y := (Y.alloc (.cells #[.int .i64 0, .int .i64 0] 27)).drew
            have Z := (Bk.new (r := w2.heap.size) (cs := [.int .i64 0, .int .i64 0]) w2 27 (by simp)).drew
            replace hW := (show Below wr.heap.size wr ((w2.alloc (.cells #[.int .i64 0, .int .i64 0] 27)).drew) by go_grown)
            clear Yc Yf Yl
            generalize (w2.alloc (.cells #[.int .i64 0, .int .i64 0] 27)).drew = w3 at *
            have s3 := B3.size
            have ⟨Yc, Yf, Yl⟩ := Y
            have ⟨Zc, Zf, Zl⟩ := Z
            have hbl : b < w3.heap.size := by have := hW.size; omega
            repeat (first | (refine wpI_rd rfl rfl ?_; go_big_quiet_step (fail); refine wpQuiet_nil ?_) | (refine wpI_skip rfl rfl ?_; try simp only [pts]))
            try simp only [pts]
            refine wpI_nil ?_
            try simp only [pts]
            go_wp2_with fail
            refine (sNeeds_any d.ns a2 c2 n _ N.out).mono ?_
            rintro e w4 ⟨rfl, hb⟩
            rw [HD.out]
            have B4 := bcm w hb
            have q4 : w3.heap.size ≤ w4.heap.size := qle hb
            replace V := Hd (V.out.bl hb)
            replace N := Hd (N.out.bl hb)
            replace Y := Y.bw hb
            replace Z := Z.bw hb
            clear hb
            have s4 := B4.size
            clear Yc Yf Yl Zc Zf Zl
            have ⟨Yc, Yf, Yl⟩ := Y
            have ⟨Zc, Zf, Zl⟩ := Z
            go_wp2_with fail
            go_roundw
            case rel => exact ⟨k + 1, hlt2, by go_num, E, by go_grown⟩
            case measure => simp [intOf]; omega
          · skip
            have E := Hd (HGO.out.2 (by rw [Pl.relI_n0 hlt2 (Pl.vr_zero c3) h0]; exact q4))
            rw [Pl.relI_n0 hlt2 (Pl.vr_zero c3) h0] at E
            obtain ⟨D, hD⟩ : ∃ D, Pl.needsC n l[k].ns = D := ⟨_, rfl⟩
            rw [hD] at E q4
            have u1 := beqF q4
            have u2 := bneT q4
            have HD := Hd hD
            clear hD
            clear HGO hu HF hk c3 h0 q4
            clear HAT
            obtain ⟨e0, e1, e2, e3, e4, V, N⟩ := id HI.out
            replace V := Hd V
            replace N := Hd N
            generalize l[k] = d at *
            go_wp2_with fail
            refine (Validate_any d.v a1 c1 _ (V.out.bl (by go_grown))).mono ?_
            rintro e w2 ⟨rfl, hb⟩
            rw [RX.out]
            simp only [fltV]
            have hW : Below wr.heap.size wr w2 := bcall (by go_grown) hb (by simp)
            have hbl : b < w2.heap.size := by have := hW.size; omega
            have B2 := bcm w hb
            have q2 : wr.heap.size + 1 ≤ w2.heap.size := qle hb
            replace V := Hd ((V.out.al _).bl hb)
            replace N := Hd ((N.out.al _).bl hb)
            have Y := ((bkn wr.heap.size [.int .i64 d.v.maj, .int .i64 d.v.min, .int .i64 d.v.pat, .slice a1 d.v.pre.length c1, .slice a2 d.ns.length c2] 75)).bw hb
            clear hb
            have s2 := B2.size
            have ⟨Yc, Yf, Yl⟩ := Y
            clear e0 e1 e2 e3 e4
            go_wp2_with fail
            clear hbl
            refine wp_region_ord [0, 1, 2, 3, 4, 5, 6, 7, 8, 9, 10, 11, 12, 13] (by kernel_rfl) (by kernel_rfl) ?_
            have B3 : Below w.heap.size w (w2.alloc (.cells #[.int .i64 0, .int .i64 0] 27)).drew := by go_grown
            have q3 : w2.heap.size + 1 ≤ (w2.alloc (.cells #[.int .i64 0, .int .i64 0] 27)).drew.heap.size := by simp only [World.size_alloc, World.size_drew]; omega
            replace V := Hd ((V.out.al (.cells #[.int .i64 0, .int .i64 0] 27)).bl (Below.refl _ _).drew)
            replace N := Hd ((N.out.al (.cells #[.int .i64 0, .int .i64 0] 27)).bl (Below.refl _ _).drew)
            replace Y := (Y.alloc (.cells #[.int .i64 0, .int .i64 0] 27)).drew
            have Z := (Bk.new (r := w2.heap.size) (cs := [.int .i64 0, .int .i64 0]) w2 27 (by simp)).drew
            replace hW := (show Below wr.heap.size wr ((w2.alloc (.cells #[.int .i64 0, .int .i64 0] 27)).drew) by go_grown)
            clear Yc Yf Yl
            generalize (w2.alloc (.cells #[.int .i64 0, .int .i64 0] 27)).drew = w3 at *
            have s3 := B3.size
            have ⟨Yc, Yf, Yl⟩ := Y
            have ⟨Zc, Zf, Zl⟩ := Z
            have hbl : b < w3.heap.size := by have := hW.size; omega
            repeat (first | (refine wpI_rd rfl rfl ?_; go_big_quiet_step (fail); refine wpQuiet_nil ?_) | (refine wpI_skip rfl rfl ?_; try simp only [pts]))
            try simp only [pts]
            refine wpI_nil ?_
            try simp only [pts]
            go_wp2_with fail
            refine (sNeeds_any d.ns a2 c2 n _ N.out).mono ?_
            rintro e w4 ⟨rfl, hb⟩
            rw [HD.out]
            have B4 := bcm w hb
            have q4 : w3.heap.size ≤ w4.heap.size := qle hb
            replace V := Hd (V.out.bl hb)
            replace N := Hd (N.out.bl hb)
            replace Y := Y.bw hb
            replace Z := Z.bw hb
            clear hb
            have s4 := B4.size
            clear Yc Yf Yl Zc Zf Zl
            have ⟨Yc, Yf, Yl⟩ := Y
            have ⟨Zc, Zf, Zl⟩ := Z
            go_wp2_with fail
            go_ret
            exact ⟨by rw [E.out]; rfl, by go_grown⟩
        · have hpos : 0 < k := by omega
          by_cases q3 : 0 ≤ Pl.verCmp (l[k - 1]'(by omega)).v l[k].v
          · skip
            have E := Hd (HGO.out.2 (by rw [Pl.relI_ord hlt2 (Pl.vr_zero c3) hpos q3]; decide))
            rw [Pl.relI_ord hlt2 (Pl.vr_zero c3) hpos q3] at E
            obtain ⟨a3, c3', a4, c4, P⟩ := HAT.out (k - 1) (by omega)
            obtain ⟨i1, i2, i3, i4, i5, i6, i7⟩ := idx_prev hpos hlt2 (by omega)
            have HP := Hd P
            clear P
            have OKP := Hd ((Pl.relI_ok (show k - 1 < l.length by omega)).1 (hu.out.2 (k - 1) (by omega))).1
            have OKX := Hd (Pl.vr_ok c3)
            obtain ⟨p, hp⟩ : ∃ p, l[k - 1]'(by omega) = p := ⟨_, rfl⟩
            rw [hp] at HP OKP q3
            clear hp
            obtain ⟨K, hK⟩ : ∃ K, Pl.verCmp l[k].v p.v = K := ⟨_, rfl⟩
            rw [Pl.vc_anti l[k].v p.v, hK] at q3
            have t7 : decide (K ≤ (0 : Int)) = true := by simp; omega
            have HK := Hd hK
            clear hK q3
            clear HGO hu HF hk c3 h0
            clear HAT
            obtain ⟨e0, e1, e2, e3, e4, V, N⟩ := id HI.out
            replace V := Hd V
            replace N := Hd N
            generalize l[k] = d at *
            go_wp2_with fail
            refine (Validate_any d.v a1 c1 _ (V.out.bl (by go_grown))).mono ?_
            rintro e w2 ⟨rfl, hb⟩
            rw [RX.out]
            simp only [fltV]
            have hW : Below wr.heap.size wr w2 := bcall (by go_grown) hb (by simp)
            have hbl : b < w2.heap.size := by have := hW.size; omega
            have B2 := bcm w hb
            have q2 : wr.heap.size + 1 ≤ w2.heap.size := qle hb
            replace V := Hd ((V.out.al _).bl hb)
            replace N := Hd ((N.out.al _).bl hb)
            have Y := ((bkn wr.heap.size [.int .i64 d.v.maj, .int .i64 d.v.min, .int .i64 d.v.pat, .slice a1 d.v.pre.length c1, .slice a2 d.ns.length c2] 75)).bw hb
            clear hb
            have s2 := B2.size
            have ⟨Yc, Yf, Yl⟩ := Y
            clear e0 e1 e2 e3 e4
            go_wp2_with fail
            clear hbl
            refine wp_region_ord [0, 1, 2, 3, 4, 5, 6, 7, 8, 9, 10, 11, 12, 13] (by kernel_rfl) (by kernel_rfl) ?_
            have B3 : Below w.heap.size w (w2.alloc (.cells #[.int .i64 0, .int .i64 0] 27)).drew := by go_grown
            have q3 : w2.heap.size + 1 ≤ (w2.alloc (.cells #[.int .i64 0, .int .i64 0] 27)).drew.heap.size := by simp only [World.size_alloc, World.size_drew]; omega
            replace V := Hd ((V.out.al (.cells #[.int .i64 0, .int .i64 0] 27)).bl (Below.refl _ _).drew)
            replace N := Hd ((N.out.al (.cells #[.int .i64 0, .int .i64 0] 27)).bl (Below.refl _ _).drew)
            replace Y := (Y.alloc (.cells #[.int .i64 0, .int .i64 0] 27)).drew
            have Z := (Bk.new (r := w2.heap.size) (cs := [.int .i64 0, .int .i64 0]) w2 27 (by simp)).drew
            replace hW := (show Below wr.heap.size wr ((w2.alloc (.cells #[.int .i64 0, .int .i64 0] 27)).drew) by go_grown)
            clear Yc Yf Yl
            generalize (w2.alloc (.cells #[.int .i64 0, .int .i64 0] 27)).drew = w3 at *
            have s3 := B3.size
            have ⟨Yc, Yf, Yl⟩ := Y
            have ⟨Zc, Zf, Zl⟩ := Z
            have hbl : b < w3.heap.size := by have := hW.size; omega
            obtain ⟨p0, p1, p2, p3, p4, PV, -⟩ := HP.out.below hW hlt nle
            replace PV := Hd PV
            repeat (first | (refine wpI_rd rfl rfl ?_; go_big_quiet_step (fail); refine wpQuiet_nil ?_) | (refine wpI_skip rfl rfl ?_; try simp only [pts]))
            try simp only [pts]
            refine wpI_call (f := 113) rfl rfl rfl (by simp [go_sem]; rfl) ?_
            refine (Order_any d.v p.v a1 a3 c1 c3' _ (VOk.of V.out OKX.out) (VOk.of PV.out OKP.out)).mono ?_
            rintro e w4 ⟨rfl, hb⟩
            rw [HK.out]
            have hW' := hW
            clear hW hbl
            have hW : Below wr.heap.size wr w4 := bcall hW' hb (by go_size)
            have hbl : b < w4.heap.size := by have := hW.size; omega
            clear hW'
            refine ⟨_, rfl, hb, ?_⟩
            skip
            have B4 := bcm w hb
            have q4 : w3.heap.size ≤ w4.heap.size := qle hb
            replace V := Hd (V.out.bl hb)
            replace N := Hd (N.out.bl hb)
            replace PV := Hd (PV.out.bl hb)
            replace Y := Y.bw hb
            replace Z := Z.bw hb
            clear hb
            have s4 := B4.size
            clear Yc Yf Yl Zc Zf Zl
            have ⟨Yc, Yf, Yl⟩ := Y
            have ⟨Zc, Zf, Zl⟩ := Z
            try simp only [pts]
            clear p0 p1 p2 p3 p4 HP
            repeat (first | (refine wpI_rd rfl rfl ?_; go_big_quiet_step (fail); refine wpQuiet_nil ?_) | (refine wpI_skip rfl rfl ?_; try simp only [pts]))
            try simp only [pts]
            refine wpI_nil ?_
            try simp only [pts]
            go_wp2_with fail
            go_ret
            exact ⟨by rw [E.out]; rfl, by first | exact Go.below_drewN (by go_grown) _ | go_grown⟩
          · by_cases q4 : Pl.needsC n l[k].ns = 0
            · skip
              have E := Hd (HGO.out.1 (by rw [Pl.relI_n1 hlt2 (Pl.vr_zero c3) hpos q3]; exact q4))
              obtain ⟨D, hD⟩ : ∃ D, Pl.needsC n l[k].ns = D := ⟨_, rfl⟩
              rw [hD] at q4
              subst q4
              have HD := Hd hD
              clear hD
              obtain ⟨a3, c3', a4, c4, P⟩ := HAT.out (k - 1) (by omega)
              obtain ⟨i1, i2, i3, i4, i5, i6, i7⟩ := idx_prev hpos hlt2 (by omega)
              have HP := Hd P
              clear P
              have OKP := Hd ((Pl.relI_ok (show k - 1 < l.length by omega)).1 (hu.out.2 (k - 1) (by omega))).1
              have OKX := Hd (Pl.vr_ok c3)
              obtain ⟨p, hp⟩ : ∃ p, l[k - 1]'(by omega) = p := ⟨_, rfl⟩
              rw [hp] at HP OKP q3
              clear hp
              obtain ⟨K, hK⟩ : ∃ K, Pl.verCmp l[k].v p.v = K := ⟨_, rfl⟩
              rw [Pl.vc_anti l[k].v p.v, hK] at q3
              have t7 : decide (K ≤ (0 : Int)) = false := by simp; omega
              have HK := Hd hK
              clear hK q3
              clear HGO hu HF hk c3 h0
              clear HAT
              obtain ⟨e0, e1, e2, e3, e4, V, N⟩ := id HI.out
              replace V := Hd V
              replace N := Hd N
              generalize l[k] = d at *
              go_wp2_with fail
              refine (Validate_any d.v a1 c1 _ (V.out.bl (by go_grown))).mono ?_
              rintro e w2 ⟨rfl, hb⟩
              rw [RX.out]
              simp only [fltV]
              have hW : Below wr.heap.size wr w2 := bcall (by go_grown) hb (by simp)
              have hbl : b < w2.heap.size := by have := hW.size; omega
              have B2 := bcm w hb
              have q2 : wr.heap.size + 1 ≤ w2.heap.size := qle hb
              replace V := Hd ((V.out.al _).bl hb)
              replace N := Hd ((N.out.al _).bl hb)
              have Y := ((bkn wr.heap.size [.int .i64 d.v.maj, .int .i64 d.v.min, .int .i64 d.v.pat, .slice a1 d.v.pre.length c1, .slice a2 d.ns.length c2] 75)).bw hb
              clear hb
              have s2 := B2.size
              have ⟨Yc, Yf, Yl⟩ := Y
              clear e0 e1 e2 e3 e4
              go_wp2_with fail
              clear hbl
              refine wp_region_ord [0, 1, 2, 3, 4, 5, 6, 7, 8, 9, 10, 11, 12, 13] (by kernel_rfl) (by kernel_rfl) ?_
              have B3 : Below w.heap.size w (w2.alloc (.cells #[.int .i64 0, .int .i64 0] 27)).drew := by go_grown
              have q3 : w2.heap.size + 1 ≤ (w2.alloc (.cells #[.int .i64 0, .int .i64 0] 27)).drew.heap.size := by simp only [World.size_alloc, World.size_drew]; omega
              replace V := Hd ((V.out.al (.cells #[.int .i64 0, .int .i64 0] 27)).bl (Below.refl _ _).drew)
              replace N := Hd ((N.out.al (.cells #[.int .i64 0, .int .i64 0] 27)).bl (Below.refl _ _).drew)
              replace Y := (Y.alloc (.cells #[.int .i64 0, .int .i64 0] 27)).drew
              have Z := (Bk.new (r := w2.heap.size) (cs := [.int .i64 0, .int .i64 0]) w2 27 (by simp)).drew
              replace hW := (show Below wr.heap.size wr ((w2.alloc (.cells #[.int .i64 0, .int .i64 0] 27)).drew) by go_grown)
              clear Yc Yf Yl
              generalize (w2.alloc (.cells #[.int .i64 0, .int .i64 0] 27)).drew = w3 at *
              have s3 := B3.size
              have ⟨Yc, Yf, Yl⟩ := Y
              have ⟨Zc, Zf, Zl⟩ := Z
              have hbl : b < w3.heap.size := by have := hW.size; omega
              obtain ⟨p0, p1, p2, p3, p4, PV, -⟩ := HP.out.below hW hlt nle
              replace PV := Hd PV
              repeat (first | (refine wpI_rd rfl rfl ?_; go_big_quiet_step (fail); refine wpQuiet_nil ?_) | (refine wpI_skip rfl rfl ?_; try simp only [pts]))
              try simp only [pts]
              refine wpI_call (f := 113) rfl rfl rfl (by simp [go_sem]; rfl) ?_
              refine (Order_any d.v p.v a1 a3 c1 c3' _ (VOk.of V.out OKX.out) (VOk.of PV.out OKP.out)).mono ?_
              rintro e w4 ⟨rfl, hb⟩
              rw [HK.out]
              have hW' := hW
              clear hW hbl
              have hW : Below wr.heap.size wr w4 := bcall hW' hb (by go_size)
              have hbl : b < w4.heap.size := by have := hW.size; omega
              clear hW'
              refine ⟨_, rfl, hb, ?_⟩
              skip
              have B4 := bcm w hb
              have q4 : w3.heap.size ≤ w4.heap.size := qle hb
              replace V := Hd (V.out.bl hb)
              replace N := Hd (N.out.bl hb)
              replace PV := Hd (PV.out.bl hb)
              replace Y := Y.bw hb
              replace Z := Z.bw hb
              clear hb
              have s4 := B4.size
              clear Yc Yf Yl Zc Zf Zl
              have ⟨Yc, Yf, Yl⟩ := Y
              have ⟨Zc, Zf, Zl⟩ := Z
              try simp only [pts]
              clear p0 p1 p2 p3 p4 HP
              repeat (first | (refine wpI_rd rfl rfl ?_; go_big_quiet_step (fail); refine wpQuiet_nil ?_) | (refine wpI_skip rfl rfl ?_; try simp only [pts]))
              try simp only [pts]
              refine wpI_nil ?_
              try simp only [pts]
              go_wp2_with fail
              refine (sNeeds_any d.ns a2 c2 n _ N.out).mono ?_
              rintro e w5 ⟨rfl, hb⟩
              rw [HD.out]
              have B5 := bcm w hb
              have q5 : w4.heap.size ≤ w5.heap.size := qle hb
              replace V := Hd (V.out.bl hb)
              replace N := Hd (N.out.bl hb)
              replace PV := Hd (PV.out.bl hb)
              replace Y := Y.bw hb
              replace Z := Z.bw hb
              clear hb
              have s5 := B5.size
              clear Yc Yf Yl Zc Zf Zl
              have ⟨Yc, Yf, Yl⟩ := Y
              have ⟨Zc, Zf, Zl⟩ := Z
              go_wp2_with fail
              go_roundw
              case rel => exact ⟨k + 1, hlt2, by go_num, E, by go_grown⟩
              case measure => simp [intOf]; omega
            · skip
              have E := Hd (HGO.out.2 (by rw [Pl.relI_n1 hlt2 (Pl.vr_zero c3) hpos q3]; exact q4))
              rw [Pl.relI_n1 hlt2 (Pl.vr_zero c3) hpos q3] at E
              obtain ⟨D, hD⟩ : ∃ D, Pl.needsC n l[k].ns = D := ⟨_, rfl⟩
              rw [hD] at E q4
              have u1 := beqF q4
              have u2 := bneT q4
              have HD := Hd hD
              clear hD
              obtain ⟨a3, c3', a4, c4, P⟩ := HAT.out (k - 1) (by omega)
              obtain ⟨i1, i2, i3, i4, i5, i6, i7⟩ := idx_prev hpos hlt2 (by omega)
              have HP := Hd P
              clear P
              have OKP := Hd ((Pl.relI_ok (show k - 1 < l.length by omega)).1 (hu.out.2 (k - 1) (by omega))).1
              have OKX := Hd (Pl.vr_ok c3)
              obtain ⟨p, hp⟩ : ∃ p, l[k - 1]'(by omega) = p := ⟨_, rfl⟩
              rw [hp] at HP OKP q3
              clear hp
              obtain ⟨K, hK⟩ : ∃ K, Pl.verCmp l[k].v p.v = K := ⟨_, rfl⟩
              rw [Pl.vc_anti l[k].v p.v, hK] at q3
              have t7 : decide (K ≤ (0 : Int)) = false := by simp; omega
              have HK := Hd hK
              clear hK q3
              clear HGO hu HF hk c3 h0 q4
              clear HAT
              obtain ⟨e0, e1, e2, e3, e4, V, N⟩ := id HI.out
              replace V := Hd V
              replace N := Hd N
              generalize l[k] = d at *
              go_wp2_with fail
              refine (Validate_any d.v a1 c1 _ (V.out.bl (by go_grown))).mono ?_
              rintro e w2 ⟨rfl, hb⟩
              rw [RX.out]
              simp only [fltV]
              have hW : Below wr.heap.size wr w2 := bcall (by go_grown) hb (by simp)
              have hbl : b < w2.heap.size := by have := hW.size; omega
              have B2 := bcm w hb
              have q2 : wr.heap.size + 1 ≤ w2.heap.size := qle hb
              replace V := Hd ((V.out.al _).bl hb)
              replace N := Hd ((N.out.al _).bl hb)
              have Y := ((bkn wr.heap.size [.int .i64 d.v.maj, .int .i64 d.v.min, .int .i64 d.v.pat, .slice a1 d.v.pre.length c1, .slice a2 d.ns.length c2] 75)).bw hb
              clear hb
              have s2 := B2.size
              have ⟨Yc, Yf, Yl⟩ := Y
              clear e0 e1 e2 e3 e4
              go_wp2_with fail
              clear hbl
              refine wp_region_ord [0, 1, 2, 3, 4, 5, 6, 7, 8, 9, 10, 11, 12, 13] (by kernel_rfl) (by kernel_rfl) ?_
              have B3 : Below w.heap.size w (w2.alloc (.cells #[.int .i64 0, .int .i64 0] 27)).drew := by go_grown
              have q3 : w2.heap.size + 1 ≤ (w2.alloc (.cells #[.int .i64 0, .int .i64 0] 27)).drew.heap.size := by simp only [World.size_alloc, World.size_drew]; omega
              replace V := Hd ((V.out.al (.cells #[.int .i64 0, .int .i64 0] 27)).bl (Below.refl _ _).drew)
              replace N := Hd ((N.out.al (.cells #[.int .i64 0, .int .i64 0] 27)).bl (Below.refl _ _).drew)
              replace Y := (Y.alloc (.cells #[.int .i64 0, .int .i64 0] 27)).drew
              have Z := (Bk.new (r := w2.heap.size) (cs := [.int .i64 0, .int .i64 0]) w2 27 (by simp)).drew
              replace hW := (show Below wr.heap.size wr ((w2.alloc (.cells #[.int .i64 0, .int .i64 0] 27)).drew) by go_grown)
              clear Yc Yf Yl
              generalize (w2.alloc (.cells #[.int .i64 0, .int .i64 0] 27)).drew = w3 at *
              have s3 := B3.size
              have ⟨Yc, Yf, Yl⟩ := Y
              have ⟨Zc, Zf, Zl⟩ := Z
              have hbl : b < w3.heap.size := by have := hW.size; omega
              obtain ⟨p0, p1, p2, p3, p4, PV, -⟩ := HP.out.below hW hlt nle
              replace PV := Hd PV
              repeat (first | (refine wpI_rd rfl rfl ?_; go_big_quiet_step (fail); refine wpQuiet_nil ?_) | (refine wpI_skip rfl rfl ?_; try simp only [pts]))
              try simp only [pts]
              refine wpI_call (f := 113) rfl rfl rfl (by simp [go_sem]; rfl) ?_
              refine (Order_any d.v p.v a1 a3 c1 c3' _ (VOk.of V.out OKX.out) (VOk.of PV.out OKP.out)).mono ?_
              rintro e w4 ⟨rfl, hb⟩
              rw [HK.out]
              have hW' := hW
              clear hW hbl
              have hW : Below wr.heap.size wr w4 := bcall hW' hb (by go_size)
              have hbl : b < w4.heap.size := by have := hW.size; omega
              clear hW'
              refine ⟨_, rfl, hb, ?_⟩
              skip
              have B4 := bcm w hb
              have q4 : w3.heap.size ≤ w4.heap.size := qle hb
              replace V := Hd (V.out.bl hb)
              replace N := Hd (N.out.bl hb)
              replace PV := Hd (PV.out.bl hb)
              replace Y := Y.bw hb
              replace Z := Z.bw hb
              clear hb
              have s4 := B4.size
              clear Yc Yf Yl Zc Zf Zl
              have ⟨Yc, Yf, Yl⟩ := Y
              have ⟨Zc, Zf, Zl⟩ := Z
              try simp only [pts]
              clear p0 p1 p2 p3 p4 HP
              repeat (first | (refine wpI_rd rfl rfl ?_; go_big_quiet_step (fail); refine wpQuiet_nil ?_) | (refine wpI_skip rfl rfl ?_; try simp only [pts]))
              try simp only [pts]
              refine wpI_nil ?_
              try simp only [pts]
              go_wp2_with fail
              refine (sNeeds_any d.ns a2 c2 n _ N.out).mono ?_
              rintro e w5 ⟨rfl, hb⟩
              rw [HD.out]
              have B5 := bcm w hb
              have q5 : w4.heap.size ≤ w5.heap.size := qle hb
              replace V := Hd (V.out.bl hb)
              replace N := Hd (N.out.bl hb)
              replace PV := Hd (PV.out.bl hb)
              replace Y := Y.bw hb
              replace Z := Z.bw hb
              clear hb
              have s5 := B5.size
              clear Yc Yf Yl Zc Zf Zl
              have ⟨Yc, Yf, Yl⟩ := Y
              have ⟨Zc, Zf, Zl⟩ := Z
              go_wp2_with fail
              go_ret
              exact ⟨by rw [E.out]; rfl, by go_grown⟩
      · obtain ⟨X, hX⟩ : ∃ X, Pl.vrF l[k].v = X := ⟨_, rfl⟩
        obtain ⟨x1, x2⟩ := X
        have RX := Hd hX
        have t8 : (x1 == 0) = false := beqF (by rw [hX] at c3; exact c3)
        have t9 : (x1 != 0) = true := bneT (by rw [hX] at c3; exact c3)
        have E := Hd (HGO.out.2 (by rw [Pl.relI_v hlt2 c3]; exact c3))
        rw [Pl.relI_v hlt2 c3, hX] at E
        clear HGO hu HF hk c3 hX
        clear HAT
        obtain ⟨e0, e1, e2, e3, e4, V, N⟩ := id HI.out
        replace V := Hd V
        replace N := Hd N
        generalize l[k] = d at *
        go_wp2_with fail
        refine (Validate_any d.v a1 c1 _ (V.out.bl (by go_grown))).mono ?_
        rintro e w2 ⟨rfl, hb⟩
        rw [RX.out]
        simp only [fltV]
        have hW : Below wr.heap.size wr w2 := bcall (by go_grown) hb (by simp)
        have hbl : b < w2.heap.size := by have := hW.size; omega
        have B2 := bcm w hb
        have q2 : wr.heap.size + 1 ≤ w2.heap.size := qle hb
        replace V := Hd ((V.out.al _).bl hb)
        replace N := Hd ((N.out.al _).bl hb)
        have Y := ((bkn wr.heap.size [.int .i64 d.v.maj, .int .i64 d.v.min, .int .i64 d.v.pat, .slice a1 d.v.pre.length c1, .slice a2 d.ns.length c2] 75)).bw hb
        clear hb
        have s2 := B2.size
        have ⟨Yc, Yf, Yl⟩ := Y
        clear e0 e1 e2 e3 e4
        go_wp2_with fail
        go_ret
        exact ⟨by rw [E.out]; rfl, by go_grown⟩
    · have E := Hd (Pl.codeAt_end (by omega) hu.out.1)
      have t2 : decide ((k : Int) < (l.length : Int)) = false := by simp; omega
      have t3 : decide (k < l.length) = false := by simp; omega
      go_wp2_with fail
      go_ret
      exact ⟨by rw [E.out]; rfl, by go_grown⟩
end
section
open Go.RowKit
set_option maxRecDepth 100000 in
set_option maxHeartbeats 4000000 in
theorem sUni_any (u : Pl.Uni) (a : Option Addr) (c : Nat) (w : World) (h : UIn w u a c) :
 Calls Tryz.prog 38 #[.agg #[.slice a u.length c]] w fun e w' => e = .returned (fltV (Pl.uniF u)) ∧ Below w.heap.size w w' := by
 have hm := h.len
 obtain ⟨F, hF⟩ : ∃ F, Pl.uniF u = F := ⟨_, rfl⟩
 rw [hF]
 have H := Hd h
 clear h
 by_cases hn : 6 < u.length
 · have E : F = (2, -1) := by rw [← hF]; unfold Pl.uniF; rw [if_pos hn]
   subst E
   have t1 : decide ((6 : Int) < (u.length : Int)) = true := by simp; omega
   clear hF hn
   go_enter Tryz.func38, Tryz.ntmps38
   go_wp2_with fail
   refine bodyPost_ret (v := .agg #[.int .i64 2, .int .i64 (-1)]) (by simp [results, Tryz.results38, go_sem]) rfl ⟨rfl, by go_grown⟩
 · have HF := Hd (show Pl.codeAt (Pl.uniI u) u.length 0 = F by rw [← hF]; unfold Pl.uniF; rw [if_neg hn])
   have t1 : decide ((6 : Int) < (u.length : Int)) = false := by simp; omega
   clear hF hn
   go_enter Tryz.func38, Tryz.ntmps38
   go_wp2_with fail
   go_loopw [14] (fun i wr => ∃ k : Nat, k ≤ u.length ∧ i = .int .i64 k ∧ Hid (Pl.codeAt (Pl.uniI u) u.length k = F) ∧ Below (w.heap.size + 2) ((w.alloc (.cells #[.slice a u.length c] 56)).alloc (.cells #[.int .i64 0, .int .i64 0] 27)) wr) (fun i _ => u.length - (intOf i).toNat)
   case atStart => exact ⟨0, Nat.zero_le _, rfl, HF, Below.refl _ _⟩
   case round =>
    obtain ⟨k, hk, rfl, hu, hb⟩ := hrel
    have HB := hb
    have B1 : Below w.heap.size w wr := bcall (by go_grown) hb (by simp)
    have q0 : w.heap.size + 2 ≤ wr.heap.size := qle hb
    have X : Bk wr w.heap.size [.slice a u.length c] := ((Bk.new (cs := [.slice a u.length c]) _ _ rfl).alloc _).below hb (by simp)
    have R : Bk wr (w.heap.size + 1) [.int .i64 0, .int .i64 0] := (Bk.new (cs := [.int .i64 0, .int .i64 0]) _ _ (by simp)).below hb (by simp)
    by_cases hlt2 : k < u.length
    · obtain ⟨b, off, rfl, hlt, hat⟩ := (H.out.bl B1).at (by omega)
      obtain ⟨a1, c1, I⟩ := hat k hlt2
      have HGO := Hd (Pl.codeAt_go hlt2 hu.out)
      have EI : Pl.uniI u k = Pl.relsC u.length u[k] := by unfold Pl.uniI; rw [dif_pos hlt2]
      have ⟨e0, G⟩ := I
      replace G := Hd G
      clear hat I
      have tz : decide (k < u.length) = true := by simp; omega
      have ty : decide ((k : Int) < (u.length : Int)) = true := by simp; omega
      obtain ⟨C, hC⟩ : ∃ C, Pl.relsC u.length u[k] = C := ⟨_, rfl⟩
      have HC := Hd hC
      rw [EI, hC] at HGO
      clear EI hC hu
      by_cases c0 : C = 0
      · subst c0
        have E := Hd (HGO.out.1 rfl)
        clear HGO
        generalize u[k] = l at *
        have ⟨Xc, Xf, Xl⟩ := X
        have ⟨Rc, Rf, Rl⟩ := R
        go_wp2_with fail
        refine (sRels_any l a1 c1 u.length _ G.out).mono ?_
        rintro e w2 ⟨rfl, hb⟩
        rw [HC.out]
        have hbN : Below (w.heap.size + 2) _ w2 := bcall HB hb (by omega)
        have B2 := bcm w hb
        have q2 : wr.heap.size ≤ w2.heap.size := qle hb
        replace G := Hd (G.out.bl hb)
        replace X := X.bw hb
        replace R := R.bw hb
        clear hb
        have s2 := B2.size
        clear Xc Xf Xl Rc Rf Rl
        have ⟨Xc, Xf, Xl⟩ := X
        have ⟨Rc, Rf, Rl⟩ := R
        go_wp2_with fail
        go_roundw
        case rel => exact ⟨k + 1, hlt2, by go_num, E, hbN⟩
        case measure => simp [intOf]; omega
      · have E := Hd (HGO.out.2 c0)
        have t2 := beqF c0
        have t3 := bneT c0
        clear HGO c0
        generalize u[k] = l at *
        have ⟨Xc, Xf, Xl⟩ := X
        have ⟨Rc, Rf, Rl⟩ := R
        go_wp2_with fail
        refine (sRels_any l a1 c1 u.length _ G.out).mono ?_
        rintro e w2 ⟨rfl, hb⟩
        rw [HC.out]
        have hbN : Below (w.heap.size + 2) _ w2 := bcall HB hb (by omega)
        have B2 := bcm w hb
        have q2 : wr.heap.size ≤ w2.heap.size := qle hb
        replace G := Hd (G.out.bl hb)
        replace X := X.bw hb
        replace R := R.bw hb
        clear hb
        have s2 := B2.size
        clear Xc Xf Xl Rc Rf Rl
        have ⟨Xc, Xf, Xl⟩ := X
        have ⟨Rc, Rf, Rl⟩ := R
        go_wp2_with fail
        refine bodyPost_ret (v := .agg #[.int .i64 C, .int .i64 (k : Int)]) (by simp [results, Tryz.results38, go_sem, Rc]) rfl ⟨by rw [E.out], by go_grown⟩
    · have E := Hd (Pl.codeAt_end (by omega) hu.out)
      obtain ⟨Xc, Xf, Xl⟩ := X
      obtain ⟨Rc, Rf, Rl⟩ := R
      have t2 : decide ((k : Int) < (u.length : Int)) = false := by simp; omega
      have t3 : decide (k < u.length) = false := by simp; omega
      go_wp2_with fail
      refine bodyPost_ret (v := .agg #[.int .i64 0, .int .i64 0]) (by simp [results, Tryz.results38, go_sem, Rc]) rfl ⟨by rw [E.out], by go_grown⟩
end
section
open Go.RowKit
set_option maxHeartbeats 2000000 in
theorem within_a (lo hi v : Pl.Ver) (a b p : Option Addr) (c d q : Nat) (w : World) (h1 : VIn w lo a c) (h2 : VIn w hi b d) (h3 : VIn w v p q) (o1 : lo.Ok) (_ : hi.Ok) (o3 : v.Ok) (k : Int) (e1 : Pl.verCmp lo v = k) (hk : ¬ k ≤ 0) :
 Calls Tryz.prog 153 #[ivV ⟨lo, hi, true⟩ a b c d, verV v p q] w fun e w' => e = .returned (.bool (Pl.inI ⟨lo, hi, true⟩ v)) ∧ Below w.heap.size w w' := by
 have H := Hd h1
 have K := Hd h2
 have V := Hd h3
 have C1 := Hd (fun (W : World) (g1 : VIn W lo a c) (g2 : VIn W v p q) => VersionOrder_any lo v a p c q W (VOk.of g1 o1) (VOk.of g2 o3))
 rw [e1] at C1
 have E : Hid (false = Pl.inI ⟨lo, hi, true⟩ v) := Hd (Eq.symm (by unfold Pl.inI; rw [e1, decF hk]; rfl))
 have t1 := decF hk
 clear h1 h2 h3 o1 o3 e1 hk
 go_enter Tryz.func153, Tryz.ntmps153
 have B0 := brl w
 go_wp2_with fail
 refine (C1.out _ (H.out.bl (by go_grown)) (V.out.bl (by go_grown))).mono ?_
 rintro e w1 ⟨rfl, hb⟩
 have B1 := bcm w hb
 have q1 : w.heap.size + 2 ≤ w1.heap.size := qle hb
 replace H := Hd (((H.out.al _).al _).bl hb)
 replace K := Hd (((K.out.al _).al _).bl hb)
 replace V := Hd (((V.out.al _).al _).bl hb)
 have X := (((bkn w.heap.size [.int .i64 lo.maj, .int .i64 lo.min, .int .i64 lo.pat, .slice a lo.pre.length c, .int .i64 hi.maj, .int .i64 hi.min, .int .i64 hi.pat, .slice b hi.pre.length d, .bool true] 101).alloc _)).bw hb
 have Y := ((bkn (w.heap.size + 1) [.int .i64 v.maj, .int .i64 v.min, .int .i64 v.pat, .slice p v.pre.length q] 24)).bw hb
 clear hb
 have s1 := B1.size
 have ⟨Xc, Xf, Xl⟩ := X
 have ⟨Yc, Yf, Yl⟩ := Y
 go_wp2_with fail
 go_ret
 exact ⟨ret_bool (by rw [← E.out]), by go_grown⟩
set_option maxHeartbeats 2000000 in
theorem within_b (lo hi v : Pl.Ver) (a b p : Option Addr) (c d q : Nat) (w : World) (h1 : VIn w lo a c) (h2 : VIn w hi b d) (h3 : VIn w v p q) (o1 : lo.Ok) (_ : hi.Ok) (o3 : v.Ok) (k : Int) (e1 : Pl.verCmp lo v = k) (hk : ¬ k ≤ 0) :
 Calls Tryz.prog 153 #[ivV ⟨lo, hi, false⟩ a b c d, verV v p q] w fun e w' => e = .returned (.bool (Pl.inI ⟨lo, hi, false⟩ v)) ∧ Below w.heap.size w w' := by
 have H := Hd h1
 have K := Hd h2
 have V := Hd h3
 have C1 := Hd (fun (W : World) (g1 : VIn W lo a c) (g2 : VIn W v p q) => VersionOrder_any lo v a p c q W (VOk.of g1 o1) (VOk.of g2 o3))
 rw [e1] at C1
 have E : Hid (false = Pl.inI ⟨lo, hi, false⟩ v) := Hd (Eq.symm (by unfold Pl.inI; rw [e1, decF hk]; rfl))
 have t1 := decF hk
 clear h1 h2 h3 o1 o3 e1 hk
 go_enter Tryz.func153, Tryz.ntmps153
 have B0 := brl w
 go_wp2_with fail
 refine (C1.out _ (H.out.bl (by go_grown)) (V.out.bl (by go_grown))).mono ?_
 rintro e w1 ⟨rfl, hb⟩
 have B1 := bcm w hb
 have q1 : w.heap.size + 2 ≤ w1.heap.size := qle hb
 replace H := Hd (((H.out.al _).al _).bl hb)
 replace K := Hd (((K.out.al _).al _).bl hb)
 replace V := Hd (((V.out.al _).al _).bl hb)
 have X := (((bkn w.heap.size [.int .i64 lo.maj, .int .i64 lo.min, .int .i64 lo.pat, .slice a lo.pre.length c, .int .i64 hi.maj, .int .i64 hi.min, .int .i64 hi.pat, .slice b hi.pre.length d, .bool false] 101).alloc _)).bw hb
 have Y := ((bkn (w.heap.size + 1) [.int .i64 v.maj, .int .i64 v.min, .int .i64 v.pat, .slice p v.pre.length q] 24)).bw hb
 clear hb
 have s1 := B1.size
 have ⟨Xc, Xf, Xl⟩ := X
 have ⟨Yc, Yf, Yl⟩ := Y
 go_wp2_with fail
 go_ret
 exact ⟨ret_bool (by rw [← E.out]), by go_grown⟩
set_option maxHeartbeats 2000000 in
theorem within_c (lo hi v : Pl.Ver) (a b p : Option Addr) (c d q : Nat) (w : World) (h1 : VIn w lo a c) (h2 : VIn w hi b d) (h3 : VIn w v p q) (o1 : lo.Ok) (_ : hi.Ok) (o3 : v.Ok) (k : Int) (e1 : Pl.verCmp lo v = k) (hk : k ≤ 0) :
 Calls Tryz.prog 153 #[ivV ⟨lo, hi, true⟩ a b c d, verV v p q] w fun e w' => e = .returned (.bool (Pl.inI ⟨lo, hi, true⟩ v)) ∧ Below w.heap.size w w' := by
 have H := Hd h1
 have K := Hd h2
 have V := Hd h3
 have C1 := Hd (fun (W : World) (g1 : VIn W lo a c) (g2 : VIn W v p q) => VersionOrder_any lo v a p c q W (VOk.of g1 o1) (VOk.of g2 o3))
 rw [e1] at C1
 have E : Hid (true = Pl.inI ⟨lo, hi, true⟩ v) := Hd (Eq.symm (by unfold Pl.inI; rw [e1, decT hk]; rfl))
 have t1 := decT hk
 clear h1 h2 h3 o1 o3 e1 hk
 go_enter Tryz.func153, Tryz.ntmps153
 have B0 := brl w
 go_wp2_with fail
 refine (C1.out _ (H.out.bl (by go_grown)) (V.out.bl (by go_grown))).mono ?_
 rintro e w1 ⟨rfl, hb⟩
 have B1 := bcm w hb
 have q1 : w.heap.size + 2 ≤ w1.heap.size := qle hb
 replace H := Hd (((H.out.al _).al _).bl hb)
 replace K := Hd (((K.out.al _).al _).bl hb)
 replace V := Hd (((V.out.al _).al _).bl hb)
 have X := (((bkn w.heap.size [.int .i64 lo.maj, .int .i64 lo.min, .int .i64 lo.pat, .slice a lo.pre.length c, .int .i64 hi.maj, .int .i64 hi.min, .int .i64 hi.pat, .slice b hi.pre.length d, .bool true] 101).alloc _)).bw hb
 have Y := ((bkn (w.heap.size + 1) [.int .i64 v.maj, .int .i64 v.min, .int .i64 v.pat, .slice p v.pre.length q] 24)).bw hb
 clear hb
 have s1 := B1.size
 have ⟨Xc, Xf, Xl⟩ := X
 have ⟨Yc, Yf, Yl⟩ := Y
 go_wp2_with fail
 go_ret
 exact ⟨ret_bool (by rw [← E.out]), by go_grown⟩
set_option maxHeartbeats 2000000 in
theorem within_d (lo hi v : Pl.Ver) (a b p : Option Addr) (c d q : Nat) (w : World) (h1 : VIn w lo a c) (h2 : VIn w hi b d) (h3 : VIn w v p q) (o1 : lo.Ok) (o2 : hi.Ok) (o3 : v.Ok) (k : Int) (e1 : Pl.verCmp lo v = k) (hk : k ≤ 0) (m : Int) (e2 : Pl.verCmp v hi = m) :
 Calls Tryz.prog 153 #[ivV ⟨lo, hi, false⟩ a b c d, verV v p q] w fun e w' => e = .returned (.bool (Pl.inI ⟨lo, hi, false⟩ v)) ∧ Below w.heap.size w w' := by
 have H := Hd h1
 have K := Hd h2
 have V := Hd h3
 have C1 := Hd (fun (W : World) (g1 : VIn W lo a c) (g2 : VIn W v p q) => VersionOrder_any lo v a p c q W (VOk.of g1 o1) (VOk.of g2 o3))
 rw [e1] at C1
 have E : Hid (decide (m < 0) = Pl.inI ⟨lo, hi, false⟩ v) := Hd (Eq.symm (by unfold Pl.inI; rw [e1, e2, decT hk]; rfl))
 have t1 := decT hk
 have C2 := Hd (fun (W : World) (g1 : VIn W v p q) (g2 : VIn W hi b d) => VersionOrder_any v hi p b q d W (VOk.of g1 o3) (VOk.of g2 o2))
 rw [e2] at C2
 clear e2
 clear h1 h2 h3 o1 o2 o3 e1 hk
 go_enter Tryz.func153, Tryz.ntmps153
 have B0 := brl w
 go_wp2_with fail
 refine (C1.out _ (H.out.bl (by go_grown)) (V.out.bl (by go_grown))).mono ?_
 rintro e w1 ⟨rfl, hb⟩
 have B1 := bcm w hb
 have q1 : w.heap.size + 2 ≤ w1.heap.size := qle hb
 replace H := Hd (((H.out.al _).al _).bl hb)
 replace K := Hd (((K.out.al _).al _).bl hb)
 replace V := Hd (((V.out.al _).al _).bl hb)
 have X := (((bkn w.heap.size [.int .i64 lo.maj, .int .i64 lo.min, .int .i64 lo.pat, .slice a lo.pre.length c, .int .i64 hi.maj, .int .i64 hi.min, .int .i64 hi.pat, .slice b hi.pre.length d, .bool false] 101).alloc _)).bw hb
 have Y := ((bkn (w.heap.size + 1) [.int .i64 v.maj, .int .i64 v.min, .int .i64 v.pat, .slice p v.pre.length q] 24)).bw hb
 clear hb
 have s1 := B1.size
 have ⟨Xc, Xf, Xl⟩ := X
 have ⟨Yc, Yf, Yl⟩ := Y
 go_wp2_with fail
 refine (C2.out _ V.out K.out).mono ?_
 rintro e w2 ⟨rfl, hb⟩
 have B2 := bcm w hb
 have q2 : w1.heap.size ≤ w2.heap.size := qle hb
 replace H := Hd (H.out.bl hb)
 replace K := Hd (K.out.bl hb)
 replace V := Hd (V.out.bl hb)
 replace X := X.bw hb
 replace Y := Y.bw hb
 clear hb
 have s2 := B2.size
 clear Xc Xf Xl Yc Yf Yl
 have ⟨Xc, Xf, Xl⟩ := X
 have ⟨Yc, Yf, Yl⟩ := Y
 go_wp2_with fail
 go_ret
 exact ⟨ret_bool (by rw [← E.out]), by go_grown⟩
theorem within_any (x : Pl.Ivl) (v : Pl.Ver) (a b p : Option Addr) (c d q : Nat) (w : World) (h1 : VIn w x.lo a c) (h2 : VIn w x.hi b d) (h3 : VIn w v p q) (ox : x.Ok) (ov : v.Ok) :
 Calls Tryz.prog 153 #[ivV x a b c d, verV v p q] w fun e w' => e = .returned (.bool (Pl.inI x v)) ∧ Below w.heap.size w w' := by
 have o1 := ox.lo
 have o2 := ox.hi
 obtain ⟨lo, hi, un⟩ := x
 by_cases hk : Pl.verCmp lo v ≤ 0
 · cases un with
   | true => exact within_c lo hi v a b p c d q w h1 h2 h3 o1 o2 ov _ rfl hk
   | false => exact within_d lo hi v a b p c d q w h1 h2 h3 o1 o2 ov _ rfl hk _ rfl
 · cases un with
   | true => exact within_a lo hi v a b p c d q w h1 h2 h3 o1 o2 ov _ rfl hk
   | false => exact within_b lo hi v a b p c d q w h1 h2 h3 o1 o2 ov _ rfl hk
end
end Go.Proofs.YtolfgcoalihmgaaGreatDoor
