/- Texts joined. -/
import Derived.Test.YtolfgcoalihmgaaGreatDoorZMKo
import Derived.Test.YtolfgcoalihmgaaGreatDoorZEc
import Derived.Test.YtolfgcoalihmgaaGreatDoorZMOb
namespace Go.Proofs.YtolfgcoalihmgaaGreatDoor
section
open Go.RowKit
set_option maxRecDepth 100000 in
set_option maxHeartbeats 4000000 in
theorem rNeeds_any (l : List Pl.Need) (a : Option Addr) (c : Nat) (n : Int) (w : World) (h : NsIn w l a c) (hn0 : 0 ≤ n) (hn1 : n ≤ 9223372036854775807) :
 Calls Tryz.prog 87 #[.int .i64 n, .slice a l.length c] w fun e w' => e = .returned (.int .i64 (Pl.needsC n l)) ∧ Below w.heap.size w w' := by
 have hm := h.len
 have W1 : IntKind.i64.wrap (n - 1) = n - 1 := IntWalk.i64_in _ (by omega)
 obtain ⟨C, hC⟩ : ∃ C, Pl.needsC n l = C := ⟨_, rfl⟩
 rw [hC]
 have H := Hd h
 clear h
 by_cases hn : 4 < l.length
 · have E : C = 2 := by rw [← hC]; unfold Pl.needsC; rw [if_pos hn]
   subst E
   have t1 : decide ((4 : Int) < (l.length : Int)) = true := by simp; omega
   clear hC hn
   go_enter Tryz.func87, Tryz.ntmps87
   go_wp2_with fail
   go_ret
   exact ⟨rfl, Below.refl _ _⟩
 · obtain ⟨F, hF⟩ : ∃ F, Pl.codeAt (Pl.needI n l) l.length 0 = F := ⟨_, rfl⟩
   have E : C = F.1 := by rw [← hC, ← hF]; unfold Pl.needsC; rw [if_neg hn]
   subst E
   have HF := Hd hF
   have t1 : decide ((4 : Int) < (l.length : Int)) = false := by simp; omega
   clear hC hF hn
   go_enter Tryz.func87, Tryz.ntmps87
   go_wp2_with fail
   go_loopw [5] (fun i wr => ∃ k : Nat, k ≤ l.length ∧ i = .int .i64 k ∧ Hid (Pl.codeAt (Pl.needI n l) l.length k = F) ∧ Below w.heap.size w wr) (fun i _ => l.length - (intOf i).toNat)
   case atStart => exact ⟨0, Nat.zero_le _, rfl, HF, Below.refl _ _⟩
   case round =>
    obtain ⟨k, hk, rfl, hu, B1⟩ := hrel
    have s1 := B1.size
    by_cases hlt2 : k < l.length
    · obtain ⟨b, off, rfl, hlt, hat⟩ := (H.out.bl B1).at (by omega)
      obtain ⟨a1, c1, I⟩ := hat k hlt2
      have HGO := Hd (Pl.codeAt_go hlt2 hu.out)
      have HAT := Hd hat
      have HI := Hd I
      clear hat I
      have tz : decide (k < l.length) = true := by simp; omega
      have ty : decide ((k : Int) < (l.length : Int)) = true := by simp; omega
      by_cases q1 : l[k].pk < 0
      · have t2 := decide_eq_true q1
        have E := Hd (HGO.out.2 (by rw [Pl.needI_low hlt2 q1]; decide))
        rw [Pl.needI_low hlt2 q1] at E
        have TB : Pl.inB l[k].pk 0 (n - 1) = false := by rw [Pl.inB_false]; omega
        clear q1
        clear HGO hu HF hk
        clear HAT
        obtain ⟨e0, e1, G⟩ := id HI.out
        replace G := Hd G
        generalize l[k] = d at *
        go_wp2_with (go_at_call 56; refine (rin_any _ _ _ _).mono ?_; rintro e w' ⟨rfl, rfl⟩)
        go_ret
        exact ⟨by rw [E.out]; rfl, by first | exact Go.below_drewN (by go_grown) _ | go_grown⟩
      · have t2 := decide_eq_false q1
        by_cases q2 : n ≤ l[k].pk
        · have t3 := decide_eq_true q2
          have E := Hd (HGO.out.2 (by rw [Pl.needI_high hlt2 q2]; decide))
          rw [Pl.needI_high hlt2 q2] at E
          have TB : Pl.inB l[k].pk 0 (n - 1) = false := by rw [Pl.inB_false]; omega
          clear q1 q2
          clear HGO hu HF hk
          clear HAT
          obtain ⟨e0, e1, G⟩ := id HI.out
          replace G := Hd G
          generalize l[k] = d at *
          go_wp2_with (go_at_call 56; refine (rin_any _ _ _ _).mono ?_; rintro e w' ⟨rfl, rfl⟩)
          go_ret
          exact ⟨by rw [E.out]; rfl, by first | exact Go.below_drewN (by go_grown) _ | go_grown⟩
        · have t3 := decide_eq_false q2
          by_cases c3 : (Pl.rngF l[k].rg).1 = 0
          · have RX := Hd (Pl.rngF_ne c3)
            by_cases h0 : k = 0
            · have t5 : decide (0 < k) = false := by simp; omega
              have t6 : decide ((0 : Int) < (k : Int)) = false := by simp; omega
              have E := Hd (HGO.out.1 (Pl.needI_first hlt2 (by omega) (by omega) (Pl.rngF_ne c3) h0))
              have TB : Pl.inB l[k].pk 0 (n - 1) = true := by rw [Pl.inB_true]; omega
              clear q1 q2 c3 h0
              clear HGO hu HF hk
              clear HAT
              obtain ⟨e0, e1, G⟩ := id HI.out
              replace G := Hd G
              generalize l[k] = d at *
              go_wp2_with (go_at_call 56; refine (rin_any _ _ _ _).mono ?_; rintro e w' ⟨rfl, rfl⟩)
              refine (RangeFault_any d.rg a1 c1 _ G.out).mono ?_
              rintro e w2 ⟨rfl, hb⟩
              rw [RX.out]
              simp only [fltV]
              have hW : Below wr.heap.size wr w2 := bcall (by go_grown) hb (by simp)
              have B2 := bcm w hb
              have q2 : wr.heap.size ≤ w2.heap.size := qle hb
              replace G := Hd (G.out.bl hb)
              clear hb
              have s2 := B2.size
              clear e0 e1
              obtain ⟨e0, e1, -⟩ := HI.out.below hW hlt nle
              have hbl : b < w2.heap.size := by omega
              clear hW HI
              go_wp2_with fail
              go_quiet (fail)
              go_wp2_with fail
              go_roundw
              case rel => exact ⟨k + 1, hlt2, by go_num, E, by first | exact Go.below_drewN (by go_grown) _ | go_grown⟩
              case measure => simp [intOf]; omega
            · have hpos : 0 < k := by omega
              by_cases q3 : l[k].pk ≤ (l[k - 1]'(by omega)).pk
              · have t7 := decide_eq_true q3
                have E := Hd (HGO.out.2 (by rw [Pl.needI_bad hlt2 (by omega) (by omega) (Pl.rngF_ne c3) hpos q3]; decide))
                rw [Pl.needI_bad hlt2 (by omega) (by omega) (Pl.rngF_ne c3) hpos q3] at E
                have TB : Pl.inB l[k].pk 0 (n - 1) = true := by rw [Pl.inB_true]; omega
                clear q1 q2 c3 h0 q3
                clear HGO hu HF hk
                obtain ⟨a2, c2, P⟩ := HAT.out (k - 1) (by omega)
                obtain ⟨i1, i2, i3, i4, i5, i6, i7⟩ := idx_prev hpos hlt2 (by omega)
                have HP := Hd P
                clear P
                obtain ⟨p, hp⟩ : ∃ p, l[k - 1]'(by omega) = p := ⟨_, rfl⟩
                rw [hp] at HP t7
                clear hp
                clear HAT
                obtain ⟨e0, e1, G⟩ := id HI.out
                replace G := Hd G
                generalize l[k] = d at *
                go_wp2_with (go_at_call 56; refine (rin_any _ _ _ _).mono ?_; rintro e w' ⟨rfl, rfl⟩)
                refine (RangeFault_any d.rg a1 c1 _ G.out).mono ?_
                rintro e w2 ⟨rfl, hb⟩
                rw [RX.out]
                simp only [fltV]
                have hW : Below wr.heap.size wr w2 := bcall (by go_grown) hb (by simp)
                have B2 := bcm w hb
                have q2 : wr.heap.size ≤ w2.heap.size := qle hb
                replace G := Hd (G.out.bl hb)
                clear hb
                have s2 := B2.size
                clear e0 e1
                obtain ⟨p0, p1, -⟩ := HP.out.below hW hlt nle
                obtain ⟨e0, e1, -⟩ := HI.out.below hW hlt nle
                have hbl : b < w2.heap.size := by omega
                clear hW HI
                clear HP
                go_wp2_with fail
                go_quiet (fail)
                go_wp2_with fail
                go_ret
                exact ⟨by rw [E.out]; rfl, by first | exact Go.below_drewN (by go_grown) _ | go_grown⟩
              · have t7 := decide_eq_false q3
                have E := Hd (HGO.out.1 (Pl.needI_good hlt2 (by omega) (by omega) (Pl.rngF_ne c3) hpos (by omega)))
                have TB : Pl.inB l[k].pk 0 (n - 1) = true := by rw [Pl.inB_true]; omega
                clear q1 q2 c3 h0 q3
                clear HGO hu HF hk
                obtain ⟨a2, c2, P⟩ := HAT.out (k - 1) (by omega)
                obtain ⟨i1, i2, i3, i4, i5, i6, i7⟩ := idx_prev hpos hlt2 (by omega)
                have HP := Hd P
                clear P
                obtain ⟨p, hp⟩ : ∃ p, l[k - 1]'(by omega) = p := ⟨_, rfl⟩
                rw [hp] at HP t7
                clear hp
                clear HAT
                obtain ⟨e0, e1, G⟩ := id HI.out
                replace G := Hd G
                generalize l[k] = d at *
                go_wp2_with (go_at_call 56; refine (rin_any _ _ _ _).mono ?_; rintro e w' ⟨rfl, rfl⟩)
                refine (RangeFault_any d.rg a1 c1 _ G.out).mono ?_
                rintro e w2 ⟨rfl, hb⟩
                rw [RX.out]
                simp only [fltV]
                have hW : Below wr.heap.size wr w2 := bcall (by go_grown) hb (by simp)
                have B2 := bcm w hb
                have q2 : wr.heap.size ≤ w2.heap.size := qle hb
                replace G := Hd (G.out.bl hb)
                clear hb
                have s2 := B2.size
                clear e0 e1
                obtain ⟨p0, p1, -⟩ := HP.out.below hW hlt nle
                obtain ⟨e0, e1, -⟩ := HI.out.below hW hlt nle
                have hbl : b < w2.heap.size := by omega
                clear hW HI
                clear HP
                go_wp2_with fail
                go_quiet (fail)
                go_wp2_with fail
                go_roundw
                case rel => exact ⟨k + 1, hlt2, by go_num, E, by first | exact Go.below_drewN (by go_grown) _ | go_grown⟩
                case measure => simp [intOf]; omega
          · obtain ⟨X, hX⟩ : ∃ X, Pl.rngF l[k].rg = X := ⟨_, rfl⟩
            obtain ⟨x1, x2⟩ := X
            have RX := Hd hX
            have t8 : (x1 == 0) = false := beqF (by rw [hX] at c3; exact c3)
            have t9 : (x1 != 0) = true := bneT (by rw [hX] at c3; exact c3)
            have E := Hd (HGO.out.2 (by rw [Pl.needI_rng hlt2 (by omega) (by omega) c3]; exact c3))
            rw [Pl.needI_rng hlt2 (by omega) (by omega) c3] at E
            have TB : Pl.inB l[k].pk 0 (n - 1) = true := by rw [Pl.inB_true]; omega
            rw [hX] at E
            clear q1 q2 c3 hX
            clear HGO hu HF hk
            clear HAT
            obtain ⟨e0, e1, G⟩ := id HI.out
            replace G := Hd G
            generalize l[k] = d at *
            go_wp2_with (go_at_call 56; refine (rin_any _ _ _ _).mono ?_; rintro e w' ⟨rfl, rfl⟩)
            refine (RangeFault_any d.rg a1 c1 _ G.out).mono ?_
            rintro e w2 ⟨rfl, hb⟩
            rw [RX.out]
            simp only [fltV]
            have hW : Below wr.heap.size wr w2 := bcall (by go_grown) hb (by simp)
            have B2 := bcm w hb
            have q2 : wr.heap.size ≤ w2.heap.size := qle hb
            replace G := Hd (G.out.bl hb)
            clear hb
            have s2 := B2.size
            clear e0 e1
            obtain ⟨e0, e1, -⟩ := HI.out.below hW hlt nle
            have hbl : b < w2.heap.size := by omega
            clear hW HI
            go_wp2_with fail
            go_ret
            exact ⟨by rw [E.out]; rfl, by first | exact Go.below_drewN (by go_grown) _ | go_grown⟩
    · have E := Hd (Pl.codeAt_end (by omega) hu.out)
      have t2 : decide ((k : Int) < (l.length : Int)) = false := by simp; omega
      have t3 : decide (k < l.length) = false := by simp; omega
      go_wp2_with fail
      go_ret
      exact ⟨by rw [E.out]; rfl, by go_grown⟩
end
section
open Go.RowKit
set_option maxRecDepth 100000 in
set_option maxHeartbeats 4000000 in
theorem rRels_any (l : List Pl.Rel) (a : Option Addr) (c : Nat) (n : Int) (w : World) (h : RsIn w l a c) (hn0 : 0 ≤ n) (hn1 : n ≤ 9223372036854775807) :
 Calls Tryz.prog 85 #[.int .i64 n, .slice a l.length c] w fun e w' => e = .returned (.int .i64 (Pl.relsC n l)) ∧ Below w.heap.size w w' := by
 have hm := h.len
 obtain ⟨C, hC⟩ : ∃ C, Pl.relsC n l = C := ⟨_, rfl⟩
 rw [hC]
 have H := Hd h
 clear h
 have HN0 := Hd (And.intro hn0 hn1)
 clear hn0 hn1
 by_cases hn : 4 < l.length
 · have E : C = 2 := by rw [← hC]; unfold Pl.relsC; rw [if_pos hn]
   subst E
   have t1 : decide ((4 : Int) < (l.length : Int)) = true := by simp; omega
   clear hC hn
   go_enter Tryz.func85, Tryz.ntmps85
   go_wp2_with fail
   go_ret
   exact ⟨rfl, Below.refl _ _⟩
 · obtain ⟨F, hF⟩ : ∃ F, Pl.codeAt (Pl.relI n l) l.length 0 = F := ⟨_, rfl⟩
   have E : C = F.1 := by rw [← hC, ← hF]; unfold Pl.relsC; rw [if_neg hn]
   subst E
   have HF := Hd (Pl.CodeTo.zero hF)
   have t1 : decide ((4 : Int) < (l.length : Int)) = false := by simp; omega
   clear hC hF hn
   go_enter Tryz.func85, Tryz.ntmps85
   go_wp2_with fail
   go_loopw [5] (fun i wr => ∃ k : Nat, k ≤ l.length ∧ i = .int .i64 k ∧ Hid (Pl.CodeTo (Pl.relI n l) l.length k F) ∧ Below w.heap.size w wr) (fun i _ => l.length - (intOf i).toNat)
   case atStart => exact ⟨0, Nat.zero_le _, rfl, HF, Below.refl _ _⟩
   case round =>
    obtain ⟨k, hk, rfl, hu, B1⟩ := hrel
    have s1 := B1.size
    by_cases hlt2 : k < l.length
    · obtain ⟨b, off, rfl, hlt, hat⟩ := (H.out.bl B1).at (by omega)
      obtain ⟨a1, c1, a2, c2, I⟩ := hat k hlt2
      have HGO := Hd (Pl.CodeTo.go hlt2 hu.out)
      have HAT := Hd hat
      have HI := Hd I
      clear hat I
      have tz : decide (k < l.length) = true := by simp; omega
      have ty : decide ((k : Int) < (l.length : Int)) = true := by simp; omega
      by_cases c3 : (Pl.vrF l[k].v).1 = 0
      · have RX := Hd (Pl.vr_zero c3)
        by_cases h0 : k = 0
        · have t5 : decide (0 < k) = false := by simp; omega
          have t6 : decide ((0 : Int) < (k : Int)) = false := by simp; omega
          by_cases q4 : Pl.needsC n l[k].ns = 0
          · skip
            have E := Hd (HGO.out.1 (by rw [Pl.relI_n0 hlt2 (Pl.vr_zero c3) h0]; exact q4))
            obtain ⟨D, hD⟩ : ∃ D, Pl.needsC n l[k].ns = D := ⟨_, rfl⟩
            rw [hD] at q4
            subst q4
            have HD := Hd hD
            clear hD
            clear HGO hu HF hk c3 h0
            clear HAT
            obtain ⟨e0, e1, e2, e3, e4, V, N⟩ := id HI.out
            replace V := Hd V
            replace N := Hd N
            generalize l[k] = d at *
            go_wp2_with fail
            refine (VersionFault_any d.v a1 c1 _ V.out).mono ?_
            rintro e w2 ⟨rfl, hb⟩
            rw [RX.out]
            simp only [fltV]
            have hW : Below wr.heap.size wr w2 := bcall (by go_grown) hb (by simp)
            have hbl : b < w2.heap.size := by have := hW.size; omega
            have B2 := bcm w hb
            have q2 : wr.heap.size ≤ w2.heap.size := qle hb
            replace V := Hd (V.out.bl hb)
            replace N := Hd (N.out.bl hb)
            clear hb
            have s2 := B2.size
            clear e0 e1 e2 e3 e4
            go_wp2_with fail
            clear hbl
            refine wp_region_ord [0, 1, 2, 3, 4, 5, 6, 7, 8, 9, 10, 11, 12, 13, 14, 15, 16] (by kernel_rfl) (by kernel_rfl) ?_
            have B3 : Below w.heap.size w (w2.alloc (.cells #[.int .i64 0, .int .i64 0] 27)).drew := by go_grown
            have q3 : w2.heap.size + 1 ≤ (w2.alloc (.cells #[.int .i64 0, .int .i64 0] 27)).drew.heap.size := by simp only [World.size_alloc, World.size_drew]; omega
            replace V := Hd ((V.out.al (.cells #[.int .i64 0, .int .i64 0] 27)).bl (Below.refl _ _).drew)
            replace N := Hd ((N.out.al (.cells #[.int .i64 0, .int .i64 0] 27)).bl (Below.refl _ _).drew)
            have Z := (Bk.new (r := w2.heap.size) (cs := [.int .i64 0, .int .i64 0]) w2 27 (by simp)).drew
            replace hW := (show Below wr.heap.size wr ((w2.alloc (.cells #[.int .i64 0, .int .i64 0] 27)).drew) by go_grown)
            generalize (w2.alloc (.cells #[.int .i64 0, .int .i64 0] 27)).drew = w3 at *
            have s3 := B3.size
            have ⟨Zc, Zf, Zl⟩ := Z
            have hbl : b < w3.heap.size := by have := hW.size; omega
            obtain ⟨e0, e1, e2, e3, e4, -, -⟩ := HI.out.below hW hlt nle
            repeat (first | (refine wpI_rd rfl rfl ?_; go_big_quiet_step (fail); refine wpQuiet_nil ?_) | (refine wpI_skip rfl rfl ?_; try simp only [pts]))
            try simp only [pts]
            refine wpI_nil ?_
            try simp only [pts]
            go_wp2_with fail
            refine (rNeeds_any d.ns a2 c2 n _ N.out HN0.out.1 HN0.out.2).mono ?_
            rintro e w4 ⟨rfl, hb⟩
            rw [HD.out]
            have B4 := bcm w hb
            have q4 : w3.heap.size ≤ w4.heap.size := qle hb
            replace V := Hd (V.out.bl hb)
            replace N := Hd (N.out.bl hb)
            replace Z := Z.bw hb
            clear hb
            have s4 := B4.size
            clear Zc Zf Zl
            have ⟨Zc, Zf, Zl⟩ := Z
            clear e0 e1 e2 e3 e4
            go_wp2_with fail
            go_roundw
            case rel => exact ⟨k + 1, hlt2, by go_num, E, by go_grown⟩
            case measure => simp [intOf]; omega
          · skip
            have E := Hd (HGO.out.2 (by rw [Pl.relI_n0 hlt2 (Pl.vr_zero c3) h0]; exact q4))
            rw [Pl.relI_n0 hlt2 (Pl.vr_zero c3) h0] at E
            obtain ⟨D, hD⟩ : ∃ D, Pl.needsC n l[k].ns = D := ⟨_, rfl⟩
            rw [hD] at E q4
            have u1 := beqF q4
            have u2 := bneT q4
            have HD := Hd hD
            clear hD
            clear HGO hu HF hk c3 h0 q4
            clear HAT
            obtain ⟨e0, e1, e2, e3, e4, V, N⟩ := id HI.out
            replace V := Hd V
            replace N := Hd N
            generalize l[k] = d at *
            go_wp2_with fail
            refine (VersionFault_any d.v a1 c1 _ V.out).mono ?_
            rintro e w2 ⟨rfl, hb⟩
            rw [RX.out]
            simp only [fltV]
            have hW : Below wr.heap.size wr w2 := bcall (by go_grown) hb (by simp)
            have hbl : b < w2.heap.size := by have := hW.size; omega
            have B2 := bcm w hb
            have q2 : wr.heap.size ≤ w2.heap.size := qle hb
            replace V := Hd (V.out.bl hb)
            replace N := Hd (N.out.bl hb)
            clear hb
            have s2 := B2.size
            clear e0 e1 e2 e3 e4
            go_wp2_with fail
            clear hbl
            refine wp_region_ord [0, 1, 2, 3, 4, 5, 6, 7, 8, 9, 10, 11, 12, 13, 14, 15, 16] (by kernel_rfl) (by kernel_rfl) ?_
            have B3 : Below w.heap.size w (w2.alloc (.cells #[.int .i64 0, .int .i64 0] 27)).drew := by go_grown
            have q3 : w2.heap.size + 1 ≤ (w2.alloc (.cells #[.int .i64 0, .int .i64 0] 27)).drew.heap.size := by simp only [World.size_alloc, World.size_drew]; omega
            replace V := Hd ((V.out.al (.cells #[.int .i64 0, .int .i64 0] 27)).bl (Below.refl _ _).drew)
            replace N := Hd ((N.out.al (.cells #[.int .i64 0, .int .i64 0] 27)).bl (Below.refl _ _).drew)
            have Z := (Bk.new (r := w2.heap.size) (cs := [.int .i64 0, .int .i64 0]) w2 27 (by simp)).drew
            replace hW := (show Below wr.heap.size wr ((w2.alloc (.cells #[.int .i64 0, .int .i64 0] 27)).drew) by go_grown)
            generalize (w2.alloc (.cells #[.int .i64 0, .int .i64 0] 27)).drew = w3 at *
            have s3 := B3.size
            have ⟨Zc, Zf, Zl⟩ := Z
            have hbl : b < w3.heap.size := by have := hW.size; omega
            obtain ⟨e0, e1, e2, e3, e4, -, -⟩ := HI.out.below hW hlt nle
            repeat (first | (refine wpI_rd rfl rfl ?_; go_big_quiet_step (fail); refine wpQuiet_nil ?_) | (refine wpI_skip rfl rfl ?_; try simp only [pts]))
            try simp only [pts]
            refine wpI_nil ?_
            try simp only [pts]
            go_wp2_with fail
            refine (rNeeds_any d.ns a2 c2 n _ N.out HN0.out.1 HN0.out.2).mono ?_
            rintro e w4 ⟨rfl, hb⟩
            rw [HD.out]
            have B4 := bcm w hb
            have q4 : w3.heap.size ≤ w4.heap.size := qle hb
            replace V := Hd (V.out.bl hb)
            replace N := Hd (N.out.bl hb)
            replace Z := Z.bw hb
            clear hb
            have s4 := B4.size
            clear Zc Zf Zl
            have ⟨Zc, Zf, Zl⟩ := Z
            clear e0 e1 e2 e3 e4
            go_wp2_with fail
            go_ret
            exact ⟨by rw [E.out]; rfl, by go_grown⟩
        · have hpos : 0 < k := by omega
          by_cases q3 : 0 ≤ Pl.verCmp (l[k - 1]'(by omega)).v l[k].v
          · skip
            have E := Hd (HGO.out.2 (by rw [Pl.relI_ord hlt2 (Pl.vr_zero c3) hpos q3]; decide))
            rw [Pl.relI_ord hlt2 (Pl.vr_zero c3) hpos q3] at E
            obtain ⟨a3, c3', a4, c4, P⟩ := HAT.out (k - 1) (by omega)
            obtain ⟨i1, i2, i3, i4, i5, i6, i7⟩ := idx_prev hpos hlt2 (by omega)
            have HP := Hd P
            clear P
            have OKP := Hd ((Pl.relI_ok (show k - 1 < l.length by omega)).1 (hu.out.2 (k - 1) (by omega))).1
            have OKX := Hd (Pl.vr_ok c3)
            obtain ⟨p, hp⟩ : ∃ p, l[k - 1]'(by omega) = p := ⟨_, rfl⟩
            rw [hp] at HP OKP q3
            clear hp
            obtain ⟨K, hK⟩ : ∃ K, Pl.verCmp p.v l[k].v = K := ⟨_, rfl⟩
            rw [hK] at q3
            have t7 : decide ((0 : Int) ≤ K) = true := by simp; omega
            have HK := Hd hK
            clear hK q3
            clear HGO hu HF hk c3 h0
            clear HAT
            obtain ⟨e0, e1, e2, e3, e4, V, N⟩ := id HI.out
            replace V := Hd V
            replace N := Hd N
            generalize l[k] = d at *
            go_wp2_with fail
            refine (VersionFault_any d.v a1 c1 _ V.out).mono ?_
            rintro e w2 ⟨rfl, hb⟩
            rw [RX.out]
            simp only [fltV]
            have hW : Below wr.heap.size wr w2 := bcall (by go_grown) hb (by simp)
            have hbl : b < w2.heap.size := by have := hW.size; omega
            have B2 := bcm w hb
            have q2 : wr.heap.size ≤ w2.heap.size := qle hb
            replace V := Hd (V.out.bl hb)
            replace N := Hd (N.out.bl hb)
            clear hb
            have s2 := B2.size
            clear e0 e1 e2 e3 e4
            go_wp2_with fail
            clear hbl
            refine wp_region_ord [0, 1, 2, 3, 4, 5, 6, 7, 8, 9, 10, 11, 12, 13, 14, 15, 16] (by kernel_rfl) (by kernel_rfl) ?_
            have B3 : Below w.heap.size w (w2.alloc (.cells #[.int .i64 0, .int .i64 0] 27)).drew := by go_grown
            have q3 : w2.heap.size + 1 ≤ (w2.alloc (.cells #[.int .i64 0, .int .i64 0] 27)).drew.heap.size := by simp only [World.size_alloc, World.size_drew]; omega
            replace V := Hd ((V.out.al (.cells #[.int .i64 0, .int .i64 0] 27)).bl (Below.refl _ _).drew)
            replace N := Hd ((N.out.al (.cells #[.int .i64 0, .int .i64 0] 27)).bl (Below.refl _ _).drew)
            have Z := (Bk.new (r := w2.heap.size) (cs := [.int .i64 0, .int .i64 0]) w2 27 (by simp)).drew
            replace hW := (show Below wr.heap.size wr ((w2.alloc (.cells #[.int .i64 0, .int .i64 0] 27)).drew) by go_grown)
            generalize (w2.alloc (.cells #[.int .i64 0, .int .i64 0] 27)).drew = w3 at *
            have s3 := B3.size
            have ⟨Zc, Zf, Zl⟩ := Z
            have hbl : b < w3.heap.size := by have := hW.size; omega
            obtain ⟨e0, e1, e2, e3, e4, -, -⟩ := HI.out.below hW hlt nle
            obtain ⟨p0, p1, p2, p3, p4, PV, -⟩ := HP.out.below hW hlt nle
            replace PV := Hd PV
            repeat (first | (refine wpI_rd rfl rfl ?_; go_big_quiet_step (fail); refine wpQuiet_nil ?_) | (refine wpI_skip rfl rfl ?_; try simp only [pts]))
            try simp only [pts]
            refine wpI_call (f := 77) rfl rfl rfl (by simp [go_sem]; rfl) ?_
            refine (VersionOrder_any p.v d.v a3 a1 c3' c1 _ (VOk.of PV.out OKP.out) (VOk.of V.out OKX.out)).mono ?_
            rintro e w4 ⟨rfl, hb⟩
            rw [HK.out]
            have hW' := hW
            clear hW hbl
            have hW : Below wr.heap.size wr w4 := bcall hW' hb (by go_size)
            have hbl : b < w4.heap.size := by have := hW.size; omega
            clear hW'
            refine ⟨_, rfl, hb, ?_⟩
            skip
            have B4 := bcm w hb
            have q4 : w3.heap.size ≤ w4.heap.size := qle hb
            replace V := Hd (V.out.bl hb)
            replace N := Hd (N.out.bl hb)
            replace PV := Hd (PV.out.bl hb)
            replace Z := Z.bw hb
            clear hb
            have s4 := B4.size
            clear Zc Zf Zl
            have ⟨Zc, Zf, Zl⟩ := Z
            try simp only [pts]
            clear p0 p1 p2 p3 p4 HP
            clear e0 e1 e2 e3 e4
            obtain ⟨e0, e1, e2, e3, e4, -, -⟩ := HI.out.below hW hlt nle
            repeat (first | (refine wpI_rd rfl rfl ?_; go_big_quiet_step (fail); refine wpQuiet_nil ?_) | (refine wpI_skip rfl rfl ?_; try simp only [pts]))
            try simp only [pts]
            refine wpI_nil ?_
            try simp only [pts]
            go_wp2_with fail
            go_ret
            exact ⟨by rw [E.out]; rfl, by first | exact Go.below_drewN (by go_grown) _ | go_grown⟩
          · by_cases q4 : Pl.needsC n l[k].ns = 0
            · skip
              have E := Hd (HGO.out.1 (by rw [Pl.relI_n1 hlt2 (Pl.vr_zero c3) hpos q3]; exact q4))
              obtain ⟨D, hD⟩ : ∃ D, Pl.needsC n l[k].ns = D := ⟨_, rfl⟩
              rw [hD] at q4
              subst q4
              have HD := Hd hD
              clear hD
              obtain ⟨a3, c3', a4, c4, P⟩ := HAT.out (k - 1) (by omega)
              obtain ⟨i1, i2, i3, i4, i5, i6, i7⟩ := idx_prev hpos hlt2 (by omega)
              have HP := Hd P
              clear P
              have OKP := Hd ((Pl.relI_ok (show k - 1 < l.length by omega)).1 (hu.out.2 (k - 1) (by omega))).1
              have OKX := Hd (Pl.vr_ok c3)
              obtain ⟨p, hp⟩ : ∃ p, l[k - 1]'(by omega) = p := ⟨_, rfl⟩
              rw [hp] at HP OKP q3
              clear hp
              obtain ⟨K, hK⟩ : ∃ K, Pl.verCmp p.v l[k].v = K := ⟨_, rfl⟩
              rw [hK] at q3
              have t7 : decide ((0 : Int) ≤ K) = false := by simp; omega
              have HK := Hd hK
              clear hK q3
              clear HGO hu HF hk c3 h0
              clear HAT
              obtain ⟨e0, e1, e2, e3, e4, V, N⟩ := id HI.out
              replace V := Hd V
              replace N := Hd N
              generalize l[k] = d at *
              go_wp2_with fail
              refine (VersionFault_any d.v a1 c1 _ V.out).mono ?_
              rintro e w2 ⟨rfl, hb⟩
              rw [RX.out]
              simp only [fltV]
              have hW : Below wr.heap.size wr w2 := bcall (by go_grown) hb (by simp)
              have hbl : b < w2.heap.size := by have := hW.size; omega
              have B2 := bcm w hb
              have q2 : wr.heap.size ≤ w2.heap.size := qle hb
              replace V := Hd (V.out.bl hb)
              replace N := Hd (N.out.bl hb)
              clear hb
              have s2 := B2.size
              clear e0 e1 e2 e3 e4
              go_wp2_with fail
              clear hbl
              refine wp_region_ord [0, 1, 2, 3, 4, 5, 6, 7, 8, 9, 10, 11, 12, 13, 14, 15, 16] (by kernel_rfl) (by kernel_rfl) ?_
              have B3 : Below w.heap.size w (w2.alloc (.cells #[.int .i64 0, .int .i64 0] 27)).drew := by go_grown
              have q3 : w2.heap.size + 1 ≤ (w2.alloc (.cells #[.int .i64 0, .int .i64 0] 27)).drew.heap.size := by simp only [World.size_alloc, World.size_drew]; omega
              replace V := Hd ((V.out.al (.cells #[.int .i64 0, .int .i64 0] 27)).bl (Below.refl _ _).drew)
              replace N := Hd ((N.out.al (.cells #[.int .i64 0, .int .i64 0] 27)).bl (Below.refl _ _).drew)
              have Z := (Bk.new (r := w2.heap.size) (cs := [.int .i64 0, .int .i64 0]) w2 27 (by simp)).drew
              replace hW := (show Below wr.heap.size wr ((w2.alloc (.cells #[.int .i64 0, .int .i64 0] 27)).drew) by go_grown)
              generalize (w2.alloc (.cells #[.int .i64 0, .int .i64 0] 27)).drew = w3 at *
              have s3 := B3.size
              have ⟨Zc, Zf, Zl⟩ := Z
              have hbl : b < w3.heap.size := by have := hW.size; omega
              obtain ⟨e0, e1, e2, e3, e4, -, -⟩ := HI.out.below hW hlt nle
              obtain ⟨p0, p1, p2, p3, p4, PV, -⟩ := HP.out.below hW hlt nle
              replace PV := Hd PV
              repeat (first | (refine wpI_rd rfl rfl ?_; go_big_quiet_step (fail); refine wpQuiet_nil ?_) | (refine wpI_skip rfl rfl ?_; try simp only [pts]))
              try simp only [pts]
              refine wpI_call (f := 77) rfl rfl rfl (by simp [go_sem]; rfl) ?_
              refine (VersionOrder_any p.v d.v a3 a1 c3' c1 _ (VOk.of PV.out OKP.out) (VOk.of V.out OKX.out)).mono ?_
              rintro e w4 ⟨rfl, hb⟩
              rw [HK.out]
              have hW' := hW
              clear hW hbl
              have hW : Below wr.heap.size wr w4 := bcall hW' hb (by go_size)
              have hbl : b < w4.heap.size := by have := hW.size; omega
              clear hW'
              refine ⟨_, rfl, hb, ?_⟩
              skip
              have B4 := bcm w hb
              have q4 : w3.heap.size ≤ w4.heap.size := qle hb
              replace V := Hd (V.out.bl hb)
              replace N := Hd (N.out.bl hb)
              replace PV := Hd (PV.out.bl hb)
              replace Z := Z.bw hb
              clear hb
              have s4 := B4.size
              clear Zc Zf Zl
              have ⟨Zc, Zf, Zl⟩ := Z
              try simp only [pts]
              clear p0 p1 p2 p3 p4 HP
              clear e0 e1 e2 e3 e4
              obtain ⟨e0, e1, e2, e3, e4, -, -⟩ := HI.out.below hW hlt nle
              repeat (first | (refine wpI_rd rfl rfl ?_; go_big_quiet_step (fail); refine wpQuiet_nil ?_) | (refine wpI_skip rfl rfl ?_; try simp only [pts]))
              try simp only [pts]
              refine wpI_nil ?_
              try simp only [pts]
              go_wp2_with fail
              refine (rNeeds_any d.ns a2 c2 n _ N.out HN0.out.1 HN0.out.2).mono ?_
              rintro e w5 ⟨rfl, hb⟩
              rw [HD.out]
              have B5 := bcm w hb
              have q5 : w4.heap.size ≤ w5.heap.size := qle hb
              replace V := Hd (V.out.bl hb)
              replace N := Hd (N.out.bl hb)
              replace PV := Hd (PV.out.bl hb)
              replace Z := Z.bw hb
              clear hb
              have s5 := B5.size
              clear Zc Zf Zl
              have ⟨Zc, Zf, Zl⟩ := Z
              clear e0 e1 e2 e3 e4
              go_wp2_with fail
              go_roundw
              case rel => exact ⟨k + 1, hlt2, by go_num, E, by go_grown⟩
              case measure => simp [intOf]; omega
            · skip
              have E := Hd (HGO.out.2 (by rw [Pl.relI_n1 hlt2 (Pl.vr_zero c3) hpos q3]; exact q4))
              rw [Pl.relI_n1 hlt2 (Pl.vr_zero c3) hpos q3] at E
              obtain ⟨D, hD⟩ : ∃ D, Pl.needsC n l[k].ns = D := ⟨_, rfl⟩
              rw [hD] at E q4
              have u1 := beqF q4
              have u2 := bneT q4
              have HD := Hd hD
              clear hD
              obtain ⟨a3, c3', a4, c4, P⟩ := HAT.out (k - 1) (by omega)
              obtain ⟨i1, i2, i3, i4, i5, i6, i7⟩ := idx_prev hpos hlt2 (by omega)
              have HP := Hd P
              clear P
              have OKP := Hd ((Pl.relI_ok (show k - 1 < l.length by omega)).1 (hu.out.2 (k - 1) (by omega))).1
              have OKX := Hd (Pl.vr_ok c3)
              obtain ⟨p, hp⟩ : ∃ p, l[k - 1]'(by omega) = p := ⟨_, rfl⟩
              rw [hp] at HP OKP q3
              clear hp
              obtain ⟨K, hK⟩ : ∃ K, Pl.verCmp p.v l[k].v = K := ⟨_, rfl⟩
              rw [hK] at q3
              have t7 : decide ((0 : Int) ≤ K) = false := by simp; omega
              have HK := Hd hK
              clear hK q3
              clear HGO hu HF hk c3 h0 q4
              clear HAT
              obtain ⟨e0, e1, e2, e3, e4, V, N⟩ := id HI.out
              replace V := Hd V
              replace N := Hd N
              generalize l[k] = d at *
              go_wp2_with fail
              refine (VersionFault_any d.v a1 c1 _ V.out).mono ?_
              rintro e w2 ⟨rfl, hb⟩
              rw [RX.out]
              simp only [fltV]
              have hW : Below wr.heap.size wr w2 := bcall (by go_grown) hb (by simp)
              have hbl : b < w2.heap.size := by have := hW.size; omega
              have B2 := bcm w hb
              have q2 : wr.heap.size ≤ w2.heap.size := qle hb
              replace V := Hd (V.out.bl hb)
              replace N := Hd (N.out.bl hb)
              clear hb
              have s2 := B2.size
              clear e0 e1 e2 e3 e4
              go_wp2_with fail
              clear hbl
              refine wp_region_ord [0, 1, 2, 3, 4, 5, 6, 7, 8, 9, 10, 11, 12, 13, 14, 15, 16] (by kernel_rfl) (by kernel_rfl) ?_
              have B3 : Below w.heap.size w (w2.alloc (.cells #[.int .i64 0, .int .i64 0] 27)).drew := by go_grown
              have q3 : w2.heap.size + 1 ≤ (w2.alloc (.cells #[.int .i64 0, .int .i64 0] 27)).drew.heap.size := by simp only [World.size_alloc, World.size_drew]; omega
              replace V := Hd ((V.out.al (.cells #[.int .i64 0, .int .i64 0] 27)).bl (Below.refl _ _).drew)
              replace N := Hd ((N.out.al (.cells #[.int .i64 0, .int .i64 0] 27)).bl (Below.refl _ _).drew)
              have Z := (Bk.new (r := w2.heap.size) (cs := [.int .i64 0, .int .i64 0]) w2 27 (by simp)).drew
              replace hW := (show Below wr.heap.size wr ((w2.alloc (.cells #[.int .i64 0, .int .i64 0] 27)).drew) by go_grown)
              generalize (w2.alloc (.cells #[.int .i64 0, .int .i64 0] 27)).drew = w3 at *
              have s3 := B3.size
              have ⟨Zc, Zf, Zl⟩ := Z
              have hbl : b < w3.heap.size := by have := hW.size; omega
              obtain ⟨e0, e1, e2, e3, e4, -, -⟩ := HI.out.below hW hlt nle
              obtain ⟨p0, p1, p2, p3, p4, PV, -⟩ := HP.out.below hW hlt nle
              replace PV := Hd PV
              repeat (first | (refine wpI_rd rfl rfl ?_; go_big_quiet_step (fail); refine wpQuiet_nil ?_) | (refine wpI_skip rfl rfl ?_; try simp only [pts]))
              try simp only [pts]
              refine wpI_call (f := 77) rfl rfl rfl (by simp [go_sem]; rfl) ?_
              refine (VersionOrder_any p.v d.v a3 a1 c3' c1 _ (VOk.of PV.out OKP.out) (VOk.of V.out OKX.out)).mono ?_
              rintro e w4 ⟨rfl, hb⟩
              rw [HK.out]
              have hW' := hW
              clear hW hbl
              have hW : Below wr.heap.size wr w4 := bcall hW' hb (by go_size)
              have hbl : b < w4.heap.size := by have := hW.size; omega
              clear hW'
              refine ⟨_, rfl, hb, ?_⟩
              skip
              have B4 := bcm w hb
              have q4 : w3.heap.size ≤ w4.heap.size := qle hb
              replace V := Hd (V.out.bl hb)
              replace N := Hd (N.out.bl hb)
              replace PV := Hd (PV.out.bl hb)
              replace Z := Z.bw hb
              clear hb
              have s4 := B4.size
              clear Zc Zf Zl
              have ⟨Zc, Zf, Zl⟩ := Z
              try simp only [pts]
              clear p0 p1 p2 p3 p4 HP
              clear e0 e1 e2 e3 e4
              obtain ⟨e0, e1, e2, e3, e4, -, -⟩ := HI.out.below hW hlt nle
              repeat (first | (refine wpI_rd rfl rfl ?_; go_big_quiet_step (fail); refine wpQuiet_nil ?_) | (refine wpI_skip rfl rfl ?_; try simp only [pts]))
              try simp only [pts]
              refine wpI_nil ?_
              try simp only [pts]
              go_wp2_with fail
              refine (rNeeds_any d.ns a2 c2 n _ N.out HN0.out.1 HN0.out.2).mono ?_
              rintro e w5 ⟨rfl, hb⟩
              rw [HD.out]
              have B5 := bcm w hb
              have q5 : w4.heap.size ≤ w5.heap.size := qle hb
              replace V := Hd (V.out.bl hb)
              replace N := Hd (N.out.bl hb)
              replace PV := Hd (PV.out.bl hb)
              replace Z := Z.bw hb
              clear hb
              have s5 := B5.size
              clear Zc Zf Zl
              have ⟨Zc, Zf, Zl⟩ := Z
              clear e0 e1 e2 e3 e4
              go_wp2_with fail
              go_ret
              exact ⟨by rw [E.out]; rfl, by go_grown⟩
      · obtain ⟨X, hX⟩ : ∃ X, Pl.vrF l[k].v = X := ⟨_, rfl⟩
        obtain ⟨x1, x2⟩ := X
        have RX := Hd hX
        have t8 : (x1 == 0) = false := beqF (by rw [hX] at c3; exact c3)
        have t9 : (x1 != 0) = true := bneT (by rw [hX] at c3; exact c3)
        have E := Hd (HGO.out.2 (by rw [Pl.relI_v hlt2 c3]; exact c3))
        rw [Pl.relI_v hlt2 c3, hX] at E
        clear HGO hu HF hk c3 hX
        clear HAT
        obtain ⟨e0, e1, e2, e3, e4, V, N⟩ := id HI.out
        replace V := Hd V
        replace N := Hd N
        generalize l[k] = d at *
        go_wp2_with fail
        refine (VersionFault_any d.v a1 c1 _ V.out).mono ?_
        rintro e w2 ⟨rfl, hb⟩
        rw [RX.out]
        simp only [fltV]
        have hW : Below wr.heap.size wr w2 := bcall (by go_grown) hb (by simp)
        have hbl : b < w2.heap.size := by have := hW.size; omega
        have B2 := bcm w hb
        have q2 : wr.heap.size ≤ w2.heap.size := qle hb
        replace V := Hd (V.out.bl hb)
        replace N := Hd (N.out.bl hb)
        clear hb
        have s2 := B2.size
        clear e0 e1 e2 e3 e4
        go_wp2_with fail
        go_ret
        exact ⟨by rw [E.out]; rfl, by go_grown⟩
    · have E := Hd (Pl.codeAt_end (by omega) hu.out.1)
      have t2 : decide ((k : Int) < (l.length : Int)) = false := by simp; omega
      have t3 : decide (k < l.length) = false := by simp; omega
      go_wp2_with fail
      go_ret
      exact ⟨by rw [E.out]; rfl, by go_grown⟩
end
end Go.Proofs.YtolfgcoalihmgaaGreatDoor
