/- Contract: the code of the releases of a package, by the program. -/
import Derived.Test.YtgngehfgcogceaaGreatDoorZOc
namespace Go.Proofs.YtgngehfgcogceaaGreatDoor
open Go.RowKit

set_option maxRecDepth 100000 in
set_option maxHeartbeats 4000000 in
theorem sRels_any (l : List Pl.Rel) (a : Option Addr) (c : Nat) (n : Int) (w : World) (h : RsIn w l a c) :
    Calls Tryz.prog 38 #[.slice a l.length c, .int .i64 n] w fun e w' => e = .returned (.int .i64 (Pl.relsC n l)) ∧ Below w.heap.size w w' := by
  have hm := h.len
  obtain ⟨C, hC⟩ : ∃ C, Pl.relsC n l = C := ⟨_, rfl⟩
  rw [hC]
  have H := Lib.hid h
  clear h
  by_cases hn : 4 < l.length
  · have E : C = 2 := by rw [← hC]; unfold Pl.relsC; rw [if_pos hn]
    subst E
    have t1 : decide ((4 : Int) < (l.length : Int)) = true := by simp; omega
    clear hC hn
    go_enter Tryz.func38, Tryz.ntmps38
    go_wp2_with fail
    go_ret
    exact ⟨rfl, Below.refl _ _⟩
  · obtain ⟨F, hF⟩ : ∃ F, Pl.codeAt (Pl.relI n l) l.length 0 = F := ⟨_, rfl⟩
    have E : C = F.1 := by rw [← hC, ← hF]; unfold Pl.relsC; rw [if_neg hn]
    subst E
    have HF := Lib.hid (Pl.CodeTo.zero hF)
    have t1 : decide ((4 : Int) < (l.length : Int)) = false := by simp; omega
    clear hC hF hn
    go_enter Tryz.func38, Tryz.ntmps38
    go_wp2_with fail
    go_loopw [14] (fun i wr => ∃ k : Nat, k ≤ l.length ∧ i = .int .i64 k ∧ Hid (Pl.CodeTo (Pl.relI n l) l.length k F) ∧ Below w.heap.size w wr) (fun i _ => l.length - (intOf i).toNat)
    case atStart => exact ⟨0, Nat.zero_le _, rfl, HF, Below.refl _ _⟩
    case round =>
      obtain ⟨k, hk, rfl, hu, B1⟩ := hrel
      have s1 : w.heap.size ≤ wr.heap.size := B1.size
      by_cases hlt2 : k < l.length
      · obtain ⟨b, off, rfl, hlt, hat⟩ := (H.out.below B1 (Nat.le_refl _)).at (by omega)
        obtain ⟨a1, c1, a2, c2, I⟩ := hat k hlt2
        have HGO := Lib.hid (Pl.CodeTo.go hlt2 hu.out)
        have HAT := Lib.hid hat
        have HI := Lib.hid I
        clear hat I
        have tz : decide (k < l.length) = true := by simp; omega
        have ty : decide ((k : Int) < (l.length : Int)) = true := by simp; omega
        by_cases c3 : (Pl.vrF l[k].v).1 = 0
        · have RX := Lib.hid (Pl.vr_zero c3)
          by_cases h0 : k = 0
          · have t5 : decide (0 < k) = false := by simp; omega
            have t6 : decide ((0 : Int) < (k : Int)) = false := by simp; omega
            by_cases q4 : Pl.needsC n l[k].ns = 0
            · skip
              have E := Lib.hid (HGO.out.1 (by rw [Pl.relI_n0 hlt2 (Pl.vr_zero c3) h0]; exact q4))
              obtain ⟨D, hD⟩ : ∃ D, Pl.needsC n l[k].ns = D := ⟨_, rfl⟩
              rw [hD] at q4
              subst q4
              have HD := Lib.hid hD
              clear hD
              clear HGO hu HF hk c3 h0
              clear HAT
              obtain ⟨e0, e1, e2, e3, e4, V, N⟩ := id HI.out
              replace V := Lib.hid V
              replace N := Lib.hid N
              generalize l[k] = d at *
              go_wp2_with fail
              refine (Validate_any d.v a1 c1 _ (V.out.below (by go_grown) (Nat.le_refl _))).mono ?_
              rintro e w2 ⟨rfl, hb⟩
              rw [RX.out]
              simp only [fltV]
              have hW : Below wr.heap.size wr w2 := bcall (by go_grown) hb (by simp)
              have hbl : b < w2.heap.size := by have := hW.size; omega
              have B2 : Below w.heap.size w w2 := bcall (by go_grown) hb (by go_size)
              have q2 : wr.heap.size + 1 ≤ w2.heap.size := by have z := hb.size; (try simp only [World.size_alloc] at z); omega
              replace V := Lib.hid ((V.out.below (Below.refl _ _ |>.alloc (Nat.le_refl _) _) (Nat.le_refl _)).below hb (Nat.le_refl _))
              replace N := Lib.hid ((N.out.below (Below.refl _ _ |>.alloc (Nat.le_refl _) _) (Nat.le_refl _)).below hb (Nat.le_refl _))
              have Y := ((Bk.new (r := wr.heap.size) (cs := [.int .i64 d.v.maj, .int .i64 d.v.min, .int .i64 d.v.pat, .slice a1 d.v.pre.length c1, .slice a2 d.ns.length c2]) _ 52 (by simp))).below hb (by go_size)
              clear hb
              have s2 : w.heap.size ≤ w2.heap.size := B2.size
              obtain ⟨Y_c, Y_f, Y_l⟩ := id Y
              clear e0 e1 e2 e3 e4
              go_wp2_with fail
              clear hbl
              refine wp_region_ord [0, 1, 2, 3, 4, 5, 6, 7, 8, 9, 10, 11, 12, 13] (by kernel_rfl) (by kernel_rfl) ?_
              have B3 : Below w.heap.size w (w2.alloc (.cells #[.int .i64 0, .int .i64 0] 30)).drew := by go_grown
              have q3 : w2.heap.size + 1 ≤ (w2.alloc (.cells #[.int .i64 0, .int .i64 0] 30)).drew.heap.size := by simp only [World.size_alloc, World.size_drew]; omega
              replace V := Lib.hid ((V.out.below (Below.refl _ _ |>.alloc (Nat.le_refl _) (.cells #[.int .i64 0, .int .i64 0] 30)) (Nat.le_refl _)).below (Below.refl _ _).drew (Nat.le_refl _))
              replace N := Lib.hid ((N.out.below (Below.refl _ _ |>.alloc (Nat.le_refl _) (.cells #[.int .i64 0, .int .i64 0] 30)) (Nat.le_refl _)).below (Below.refl _ _).drew (Nat.le_refl _))
              replace Y := (Y.alloc (.cells #[.int .i64 0, .int .i64 0] 30)).drew
              have Z := (Bk.new (r := w2.heap.size) (cs := [.int .i64 0, .int .i64 0]) w2 30 (by simp)).drew
              replace hW := (show Below wr.heap.size wr ((w2.alloc (.cells #[.int .i64 0, .int .i64 0] 30)).drew) by go_grown)
              clear Y_c Y_f Y_l
              generalize (w2.alloc (.cells #[.int .i64 0, .int .i64 0] 30)).drew = w3 at *
              have s3 : w.heap.size ≤ w3.heap.size := B3.size
              obtain ⟨Y_c, Y_f, Y_l⟩ := id Y
              obtain ⟨Z_c, Z_f, Z_l⟩ := id Z
              have hbl : b < w3.heap.size := by have := hW.size; omega
              repeat (first | (refine wpI_rd rfl rfl ?_; go_big_quiet_step (fail); refine wpQuiet_nil ?_) | (refine wpI_skip rfl rfl ?_; try simp only [Act.put, List.setIfInBounds_toArray, List.set_cons_zero, List.set_cons_succ]))
              try simp only [Act.put, List.setIfInBounds_toArray, List.set_cons_zero, List.set_cons_succ]
              refine wpI_nil ?_
              try simp only [Act.put, List.setIfInBounds_toArray, List.set_cons_zero, List.set_cons_succ]
              go_wp2_with fail
              refine (sNeeds_any d.ns a2 c2 n _ N.out).mono ?_
              rintro e w4 ⟨rfl, hb⟩
              rw [HD.out]
              have B4 : Below w.heap.size w w4 := bcall (by go_grown) hb (by go_size)
              have q4 : w3.heap.size + 0 ≤ w4.heap.size := by have z := hb.size; (try simp only [World.size_alloc, World.size_setCell, World.size_drew] at z); omega
              replace V := Lib.hid (V.out.below hb (Nat.le_refl _))
              replace N := Lib.hid (N.out.below hb (Nat.le_refl _))
              replace Y := (Y).below hb (by go_size)
              replace Z := (Z).below hb (by go_size)
              clear hb
              have s4 : w.heap.size ≤ w4.heap.size := B4.size
              clear Y_c Y_f Y_l Z_c Z_f Z_l
              obtain ⟨Y_c, Y_f, Y_l⟩ := id Y
              obtain ⟨Z_c, Z_f, Z_l⟩ := id Z
              go_wp2_with fail
              go_roundw
              case rel => exact ⟨k + 1, hlt2, by go_num, E, by go_grown⟩
              case measure => simp [intOf]; omega
            · skip
              have E := Lib.hid (HGO.out.2 (by rw [Pl.relI_n0 hlt2 (Pl.vr_zero c3) h0]; exact q4))
              rw [Pl.relI_n0 hlt2 (Pl.vr_zero c3) h0] at E
              obtain ⟨D, hD⟩ : ∃ D, Pl.needsC n l[k].ns = D := ⟨_, rfl⟩
              rw [hD] at E q4
              have u1 := beqF q4
              have u2 := bneT q4
              have HD := Lib.hid hD
              clear hD
              clear HGO hu HF hk c3 h0 q4
              clear HAT
              obtain ⟨e0, e1, e2, e3, e4, V, N⟩ := id HI.out
              replace V := Lib.hid V
              replace N := Lib.hid N
              generalize l[k] = d at *
              go_wp2_with fail
              refine (Validate_any d.v a1 c1 _ (V.out.below (by go_grown) (Nat.le_refl _))).mono ?_
              rintro e w2 ⟨rfl, hb⟩
              rw [RX.out]
              simp only [fltV]
              have hW : Below wr.heap.size wr w2 := bcall (by go_grown) hb (by simp)
              have hbl : b < w2.heap.size := by have := hW.size; omega
              have B2 : Below w.heap.size w w2 := bcall (by go_grown) hb (by go_size)
              have q2 : wr.heap.size + 1 ≤ w2.heap.size := by have z := hb.size; (try simp only [World.size_alloc] at z); omega
              replace V := Lib.hid ((V.out.below (Below.refl _ _ |>.alloc (Nat.le_refl _) _) (Nat.le_refl _)).below hb (Nat.le_refl _))
              replace N := Lib.hid ((N.out.below (Below.refl _ _ |>.alloc (Nat.le_refl _) _) (Nat.le_refl _)).below hb (Nat.le_refl _))
              have Y := ((Bk.new (r := wr.heap.size) (cs := [.int .i64 d.v.maj, .int .i64 d.v.min, .int .i64 d.v.pat, .slice a1 d.v.pre.length c1, .slice a2 d.ns.length c2]) _ 52 (by simp))).below hb (by go_size)
              clear hb
              have s2 : w.heap.size ≤ w2.heap.size := B2.size
              obtain ⟨Y_c, Y_f, Y_l⟩ := id Y
              clear e0 e1 e2 e3 e4
              go_wp2_with fail
              clear hbl
              refine wp_region_ord [0, 1, 2, 3, 4, 5, 6, 7, 8, 9, 10, 11, 12, 13] (by kernel_rfl) (by kernel_rfl) ?_
              have B3 : Below w.heap.size w (w2.alloc (.cells #[.int .i64 0, .int .i64 0] 30)).drew := by go_grown
              have q3 : w2.heap.size + 1 ≤ (w2.alloc (.cells #[.int .i64 0, .int .i64 0] 30)).drew.heap.size := by simp only [World.size_alloc, World.size_drew]; omega
              replace V := Lib.hid ((V.out.below (Below.refl _ _ |>.alloc (Nat.le_refl _) (.cells #[.int .i64 0, .int .i64 0] 30)) (Nat.le_refl _)).below (Below.refl _ _).drew (Nat.le_refl _))
              replace N := Lib.hid ((N.out.below (Below.refl _ _ |>.alloc (Nat.le_refl _) (.cells #[.int .i64 0, .int .i64 0] 30)) (Nat.le_refl _)).below (Below.refl _ _).drew (Nat.le_refl _))
              replace Y := (Y.alloc (.cells #[.int .i64 0, .int .i64 0] 30)).drew
              have Z := (Bk.new (r := w2.heap.size) (cs := [.int .i64 0, .int .i64 0]) w2 30 (by simp)).drew
              replace hW := (show Below wr.heap.size wr ((w2.alloc (.cells #[.int .i64 0, .int .i64 0] 30)).drew) by go_grown)
              clear Y_c Y_f Y_l
              generalize (w2.alloc (.cells #[.int .i64 0, .int .i64 0] 30)).drew = w3 at *
              have s3 : w.heap.size ≤ w3.heap.size := B3.size
              obtain ⟨Y_c, Y_f, Y_l⟩ := id Y
              obtain ⟨Z_c, Z_f, Z_l⟩ := id Z
              have hbl : b < w3.heap.size := by have := hW.size; omega
              repeat (first | (refine wpI_rd rfl rfl ?_; go_big_quiet_step (fail); refine wpQuiet_nil ?_) | (refine wpI_skip rfl rfl ?_; try simp only [Act.put, List.setIfInBounds_toArray, List.set_cons_zero, List.set_cons_succ]))
              try simp only [Act.put, List.setIfInBounds_toArray, List.set_cons_zero, List.set_cons_succ]
              refine wpI_nil ?_
              try simp only [Act.put, List.setIfInBounds_toArray, List.set_cons_zero, List.set_cons_succ]
              go_wp2_with fail
              refine (sNeeds_any d.ns a2 c2 n _ N.out).mono ?_
              rintro e w4 ⟨rfl, hb⟩
              rw [HD.out]
              have B4 : Below w.heap.size w w4 := bcall (by go_grown) hb (by go_size)
              have q4 : w3.heap.size + 0 ≤ w4.heap.size := by have z := hb.size; (try simp only [World.size_alloc, World.size_setCell, World.size_drew] at z); omega
              replace V := Lib.hid (V.out.below hb (Nat.le_refl _))
              replace N := Lib.hid (N.out.below hb (Nat.le_refl _))
              replace Y := (Y).below hb (by go_size)
              replace Z := (Z).below hb (by go_size)
              clear hb
              have s4 : w.heap.size ≤ w4.heap.size := B4.size
              clear Y_c Y_f Y_l Z_c Z_f Z_l
              obtain ⟨Y_c, Y_f, Y_l⟩ := id Y
              obtain ⟨Z_c, Z_f, Z_l⟩ := id Z
              go_wp2_with fail
              go_ret
              exact ⟨by rw [E.out]; rfl, by go_grown⟩
          · have hpos : 0 < k := by omega
            by_cases q3 : 0 ≤ Pl.verCmp (l[k - 1]'(by omega)).v l[k].v
            · skip
              have E := Lib.hid (HGO.out.2 (by rw [Pl.relI_ord hlt2 (Pl.vr_zero c3) hpos q3]; decide))
              rw [Pl.relI_ord hlt2 (Pl.vr_zero c3) hpos q3] at E
              obtain ⟨a3, c3', a4, c4, P⟩ := HAT.out (k - 1) (by omega)
              obtain ⟨i1, i2, i3, i4, i5, i6, i7⟩ := idx_prev hpos hlt2 (by omega)
              have HP := Lib.hid P
              clear P
              have OKP := Lib.hid ((Pl.relI_ok (show k - 1 < l.length by omega)).1 (hu.out.2 (k - 1) (by omega))).1
              have OKX := Lib.hid (Pl.vr_ok c3)
              obtain ⟨p, hp⟩ : ∃ p, l[k - 1]'(by omega) = p := ⟨_, rfl⟩
              rw [hp] at HP OKP q3
              clear hp
              obtain ⟨K, hK⟩ : ∃ K, Pl.verCmp l[k].v p.v = K := ⟨_, rfl⟩
              rw [Pl.vc_anti l[k].v p.v, hK] at q3
              have t7 : decide (K ≤ (0 : Int)) = true := by simp; omega
              have HK := Lib.hid hK
              clear hK q3
              clear HGO hu HF hk c3 h0
              clear HAT
              obtain ⟨e0, e1, e2, e3, e4, V, N⟩ := id HI.out
              replace V := Lib.hid V
              replace N := Lib.hid N
              generalize l[k] = d at *
              go_wp2_with fail
              refine (Validate_any d.v a1 c1 _ (V.out.below (by go_grown) (Nat.le_refl _))).mono ?_
              rintro e w2 ⟨rfl, hb⟩
              rw [RX.out]
              simp only [fltV]
              have hW : Below wr.heap.size wr w2 := bcall (by go_grown) hb (by simp)
              have hbl : b < w2.heap.size := by have := hW.size; omega
              have B2 : Below w.heap.size w w2 := bcall (by go_grown) hb (by go_size)
              have q2 : wr.heap.size + 1 ≤ w2.heap.size := by have z := hb.size; (try simp only [World.size_alloc] at z); omega
              replace V := Lib.hid ((V.out.below (Below.refl _ _ |>.alloc (Nat.le_refl _) _) (Nat.le_refl _)).below hb (Nat.le_refl _))
              replace N := Lib.hid ((N.out.below (Below.refl _ _ |>.alloc (Nat.le_refl _) _) (Nat.le_refl _)).below hb (Nat.le_refl _))
              have Y := ((Bk.new (r := wr.heap.size) (cs := [.int .i64 d.v.maj, .int .i64 d.v.min, .int .i64 d.v.pat, .slice a1 d.v.pre.length c1, .slice a2 d.ns.length c2]) _ 52 (by simp))).below hb (by go_size)
              clear hb
              have s2 : w.heap.size ≤ w2.heap.size := B2.size
              obtain ⟨Y_c, Y_f, Y_l⟩ := id Y
              clear e0 e1 e2 e3 e4
              go_wp2_with fail
              clear hbl
              refine wp_region_ord [0, 1, 2, 3, 4, 5, 6, 7, 8, 9, 10, 11, 12, 13] (by kernel_rfl) (by kernel_rfl) ?_
              have B3 : Below w.heap.size w (w2.alloc (.cells #[.int .i64 0, .int .i64 0] 30)).drew := by go_grown
              have q3 : w2.heap.size + 1 ≤ (w2.alloc (.cells #[.int .i64 0, .int .i64 0] 30)).drew.heap.size := by simp only [World.size_alloc, World.size_drew]; omega
              replace V := Lib.hid ((V.out.below (Below.refl _ _ |>.alloc (Nat.le_refl _) (.cells #[.int .i64 0, .int .i64 0] 30)) (Nat.le_refl _)).below (Below.refl _ _).drew (Nat.le_refl _))
              replace N := Lib.hid ((N.out.below (Below.refl _ _ |>.alloc (Nat.le_refl _) (.cells #[.int .i64 0, .int .i64 0] 30)) (Nat.le_refl _)).below (Below.refl _ _).drew (Nat.le_refl _))
              replace Y := (Y.alloc (.cells #[.int .i64 0, .int .i64 0] 30)).drew
              have Z := (Bk.new (r := w2.heap.size) (cs := [.int .i64 0, .int .i64 0]) w2 30 (by simp)).drew
              replace hW := (show Below wr.heap.size wr ((w2.alloc (.cells #[.int .i64 0, .int .i64 0] 30)).drew) by go_grown)
              clear Y_c Y_f Y_l
              generalize (w2.alloc (.cells #[.int .i64 0, .int .i64 0] 30)).drew = w3 at *
              have s3 : w.heap.size ≤ w3.heap.size := B3.size
              obtain ⟨Y_c, Y_f, Y_l⟩ := id Y
              obtain ⟨Z_c, Z_f, Z_l⟩ := id Z
              have hbl : b < w3.heap.size := by have := hW.size; omega
              obtain ⟨p0, p1, p2, p3, p4, PV, -⟩ := HP.out.below hW hlt (Nat.le_refl _)
              replace PV := Lib.hid PV
              repeat (first | (refine wpI_rd rfl rfl ?_; go_big_quiet_step (fail); refine wpQuiet_nil ?_) | (refine wpI_skip rfl rfl ?_; try simp only [Act.put, List.setIfInBounds_toArray, List.set_cons_zero, List.set_cons_succ]))
              try simp only [Act.put, List.setIfInBounds_toArray, List.set_cons_zero, List.set_cons_succ]
              refine wpI_call (f := 46) rfl rfl rfl (by simp [go_sem]; rfl) ?_
              refine (Order_any d.v p.v a1 a3 c1 c3' _ (VOk.of V.out OKX.out) (VOk.of PV.out OKP.out)).mono ?_
              rintro e w4 ⟨rfl, hb⟩
              rw [HK.out]
              have hW' := hW
              clear hW hbl
              have hW : Below wr.heap.size wr w4 := bcall hW' hb (by go_size)
              have hbl : b < w4.heap.size := by have := hW.size; omega
              clear hW'
              refine ⟨_, rfl, hb, ?_⟩
              skip
              have B4 : Below w.heap.size w w4 := bcall (by go_grown) hb (by go_size)
              have q4 : w3.heap.size + 0 ≤ w4.heap.size := by have z := hb.size; (try simp only [World.size_alloc, World.size_setCell, World.size_drew] at z); omega
              replace V := Lib.hid (V.out.below hb (Nat.le_refl _))
              replace N := Lib.hid (N.out.below hb (Nat.le_refl _))
              replace PV := Lib.hid (PV.out.below hb (Nat.le_refl _))
              replace Y := (Y).below hb (by go_size)
              replace Z := (Z).below hb (by go_size)
              clear hb
              have s4 : w.heap.size ≤ w4.heap.size := B4.size
              clear Y_c Y_f Y_l Z_c Z_f Z_l
              obtain ⟨Y_c, Y_f, Y_l⟩ := id Y
              obtain ⟨Z_c, Z_f, Z_l⟩ := id Z
              try simp only [Act.put, List.setIfInBounds_toArray, List.set_cons_zero, List.set_cons_succ]
              clear p0 p1 p2 p3 p4 HP
              repeat (first | (refine wpI_rd rfl rfl ?_; go_big_quiet_step (fail); refine wpQuiet_nil ?_) | (refine wpI_skip rfl rfl ?_; try simp only [Act.put, List.setIfInBounds_toArray, List.set_cons_zero, List.set_cons_succ]))
              try simp only [Act.put, List.setIfInBounds_toArray, List.set_cons_zero, List.set_cons_succ]
              refine wpI_nil ?_
              try simp only [Act.put, List.setIfInBounds_toArray, List.set_cons_zero, List.set_cons_succ]
              go_wp2_with fail
              go_ret
              exact ⟨by rw [E.out]; rfl, by first | exact Go.below_drewN (by go_grown) _ | go_grown⟩
            · by_cases q4 : Pl.needsC n l[k].ns = 0
              · skip
                have E := Lib.hid (HGO.out.1 (by rw [Pl.relI_n1 hlt2 (Pl.vr_zero c3) hpos q3]; exact q4))
                obtain ⟨D, hD⟩ : ∃ D, Pl.needsC n l[k].ns = D := ⟨_, rfl⟩
                rw [hD] at q4
                subst q4
                have HD := Lib.hid hD
                clear hD
                obtain ⟨a3, c3', a4, c4, P⟩ := HAT.out (k - 1) (by omega)
                obtain ⟨i1, i2, i3, i4, i5, i6, i7⟩ := idx_prev hpos hlt2 (by omega)
                have HP := Lib.hid P
                clear P
                have OKP := Lib.hid ((Pl.relI_ok (show k - 1 < l.length by omega)).1 (hu.out.2 (k - 1) (by omega))).1
                have OKX := Lib.hid (Pl.vr_ok c3)
                obtain ⟨p, hp⟩ : ∃ p, l[k - 1]'(by omega) = p := ⟨_, rfl⟩
                rw [hp] at HP OKP q3
                clear hp
                obtain ⟨K, hK⟩ : ∃ K, Pl.verCmp l[k].v p.v = K := ⟨_, rfl⟩
                rw [Pl.vc_anti l[k].v p.v, hK] at q3
                have t7 : decide (K ≤ (0 : Int)) = false := by simp; omega
                have HK := Lib.hid hK
                clear hK q3
                clear HGO hu HF hk c3 h0
                clear HAT
                obtain ⟨e0, e1, e2, e3, e4, V, N⟩ := id HI.out
                replace V := Lib.hid V
                replace N := Lib.hid N
                generalize l[k] = d at *
                go_wp2_with fail
                refine (Validate_any d.v a1 c1 _ (V.out.below (by go_grown) (Nat.le_refl _))).mono ?_
                rintro e w2 ⟨rfl, hb⟩
                rw [RX.out]
                simp only [fltV]
                have hW : Below wr.heap.size wr w2 := bcall (by go_grown) hb (by simp)
                have hbl : b < w2.heap.size := by have := hW.size; omega
                have B2 : Below w.heap.size w w2 := bcall (by go_grown) hb (by go_size)
                have q2 : wr.heap.size + 1 ≤ w2.heap.size := by have z := hb.size; (try simp only [World.size_alloc] at z); omega
                replace V := Lib.hid ((V.out.below (Below.refl _ _ |>.alloc (Nat.le_refl _) _) (Nat.le_refl _)).below hb (Nat.le_refl _))
                replace N := Lib.hid ((N.out.below (Below.refl _ _ |>.alloc (Nat.le_refl _) _) (Nat.le_refl _)).below hb (Nat.le_refl _))
                have Y := ((Bk.new (r := wr.heap.size) (cs := [.int .i64 d.v.maj, .int .i64 d.v.min, .int .i64 d.v.pat, .slice a1 d.v.pre.length c1, .slice a2 d.ns.length c2]) _ 52 (by simp))).below hb (by go_size)
                clear hb
                have s2 : w.heap.size ≤ w2.heap.size := B2.size
                obtain ⟨Y_c, Y_f, Y_l⟩ := id Y
                clear e0 e1 e2 e3 e4
                go_wp2_with fail
                clear hbl
                refine wp_region_ord [0, 1, 2, 3, 4, 5, 6, 7, 8, 9, 10, 11, 12, 13] (by kernel_rfl) (by kernel_rfl) ?_
                have B3 : Below w.heap.size w (w2.alloc (.cells #[.int .i64 0, .int .i64 0] 30)).drew := by go_grown
                have q3 : w2.heap.size + 1 ≤ (w2.alloc (.cells #[.int .i64 0, .int .i64 0] 30)).drew.heap.size := by simp only [World.size_alloc, World.size_drew]; omega
                replace V := Lib.hid ((V.out.below (Below.refl _ _ |>.alloc (Nat.le_refl _) (.cells #[.int .i64 0, .int .i64 0] 30)) (Nat.le_refl _)).below (Below.refl _ _).drew (Nat.le_refl _))
                replace N := Lib.hid ((N.out.below (Below.refl _ _ |>.alloc (Nat.le_refl _) (.cells #[.int .i64 0, .int .i64 0] 30)) (Nat.le_refl _)).below (Below.refl _ _).drew (Nat.le_refl _))
                replace Y := (Y.alloc (.cells #[.int .i64 0, .int .i64 0] 30)).drew
                have Z := (Bk.new (r := w2.heap.size) (cs := [.int .i64 0, .int .i64 0]) w2 30 (by simp)).drew
                replace hW := (show Below wr.heap.size wr ((w2.alloc (.cells #[.int .i64 0, .int .i64 0] 30)).drew) by go_grown)
                clear Y_c Y_f Y_l
                generalize (w2.alloc (.cells #[.int .i64 0, .int .i64 0] 30)).drew = w3 at *
                have s3 : w.heap.size ≤ w3.heap.size := B3.size
                obtain ⟨Y_c, Y_f, Y_l⟩ := id Y
                obtain ⟨Z_c, Z_f, Z_l⟩ := id Z
                have hbl : b < w3.heap.size := by have := hW.size; omega
                obtain ⟨p0, p1, p2, p3, p4, PV, -⟩ := HP.out.below hW hlt (Nat.le_refl _)
                replace PV := Lib.hid PV
                repeat (first | (refine wpI_rd rfl rfl ?_; go_big_quiet_step (fail); refine wpQuiet_nil ?_) | (refine wpI_skip rfl rfl ?_; try simp only [Act.put, List.setIfInBounds_toArray, List.set_cons_zero, List.set_cons_succ]))
                try simp only [Act.put, List.setIfInBounds_toArray, List.set_cons_zero, List.set_cons_succ]
                refine wpI_call (f := 46) rfl rfl rfl (by simp [go_sem]; rfl) ?_
                refine (Order_any d.v p.v a1 a3 c1 c3' _ (VOk.of V.out OKX.out) (VOk.of PV.out OKP.out)).mono ?_
                rintro e w4 ⟨rfl, hb⟩
                rw [HK.out]
                have hW' := hW
                clear hW hbl
                have hW : Below wr.heap.size wr w4 := bcall hW' hb (by go_size)
                have hbl : b < w4.heap.size := by have := hW.size; omega
                clear hW'
                refine ⟨_, rfl, hb, ?_⟩
                skip
                have B4 : Below w.heap.size w w4 := bcall (by go_grown) hb (by go_size)
                have q4 : w3.heap.size + 0 ≤ w4.heap.size := by have z := hb.size; (try simp only [World.size_alloc, World.size_setCell, World.size_drew] at z); omega
                replace V := Lib.hid (V.out.below hb (Nat.le_refl _))
                replace N := Lib.hid (N.out.below hb (Nat.le_refl _))
                replace PV := Lib.hid (PV.out.below hb (Nat.le_refl _))
                replace Y := (Y).below hb (by go_size)
                replace Z := (Z).below hb (by go_size)
                clear hb
                have s4 : w.heap.size ≤ w4.heap.size := B4.size
                clear Y_c Y_f Y_l Z_c Z_f Z_l
                obtain ⟨Y_c, Y_f, Y_l⟩ := id Y
                obtain ⟨Z_c, Z_f, Z_l⟩ := id Z
                try simp only [Act.put, List.setIfInBounds_toArray, List.set_cons_zero, List.set_cons_succ]
                clear p0 p1 p2 p3 p4 HP
                repeat (first | (refine wpI_rd rfl rfl ?_; go_big_quiet_step (fail); refine wpQuiet_nil ?_) | (refine wpI_skip rfl rfl ?_; try simp only [Act.put, List.setIfInBounds_toArray, List.set_cons_zero, List.set_cons_succ]))
                try simp only [Act.put, List.setIfInBounds_toArray, List.set_cons_zero, List.set_cons_succ]
                refine wpI_nil ?_
                try simp only [Act.put, List.setIfInBounds_toArray, List.set_cons_zero, List.set_cons_succ]
                go_wp2_with fail
                refine (sNeeds_any d.ns a2 c2 n _ N.out).mono ?_
                rintro e w5 ⟨rfl, hb⟩
                rw [HD.out]
                have B5 : Below w.heap.size w w5 := bcall (by go_grown) hb (by go_size)
                have q5 : w4.heap.size + 0 ≤ w5.heap.size := by have z := hb.size; (try simp only [World.size_alloc, World.size_setCell, World.size_drew] at z); omega
                replace V := Lib.hid (V.out.below hb (Nat.le_refl _))
                replace N := Lib.hid (N.out.below hb (Nat.le_refl _))
                replace PV := Lib.hid (PV.out.below hb (Nat.le_refl _))
                replace Y := (Y).below hb (by go_size)
                replace Z := (Z).below hb (by go_size)
                clear hb
                have s5 : w.heap.size ≤ w5.heap.size := B5.size
                clear Y_c Y_f Y_l Z_c Z_f Z_l
                obtain ⟨Y_c, Y_f, Y_l⟩ := id Y
                obtain ⟨Z_c, Z_f, Z_l⟩ := id Z
                go_wp2_with fail
                go_roundw
                case rel => exact ⟨k + 1, hlt2, by go_num, E, by go_grown⟩
                case measure => simp [intOf]; omega
              · skip
                have E := Lib.hid (HGO.out.2 (by rw [Pl.relI_n1 hlt2 (Pl.vr_zero c3) hpos q3]; exact q4))
                rw [Pl.relI_n1 hlt2 (Pl.vr_zero c3) hpos q3] at E
                obtain ⟨D, hD⟩ : ∃ D, Pl.needsC n l[k].ns = D := ⟨_, rfl⟩
                rw [hD] at E q4
                have u1 := beqF q4
                have u2 := bneT q4
                have HD := Lib.hid hD
                clear hD
                obtain ⟨a3, c3', a4, c4, P⟩ := HAT.out (k - 1) (by omega)
                obtain ⟨i1, i2, i3, i4, i5, i6, i7⟩ := idx_prev hpos hlt2 (by omega)
                have HP := Lib.hid P
                clear P
                have OKP := Lib.hid ((Pl.relI_ok (show k - 1 < l.length by omega)).1 (hu.out.2 (k - 1) (by omega))).1
                have OKX := Lib.hid (Pl.vr_ok c3)
                obtain ⟨p, hp⟩ : ∃ p, l[k - 1]'(by omega) = p := ⟨_, rfl⟩
                rw [hp] at HP OKP q3
                clear hp
                obtain ⟨K, hK⟩ : ∃ K, Pl.verCmp l[k].v p.v = K := ⟨_, rfl⟩
                rw [Pl.vc_anti l[k].v p.v, hK] at q3
                have t7 : decide (K ≤ (0 : Int)) = false := by simp; omega
                have HK := Lib.hid hK
                clear hK q3
                clear HGO hu HF hk c3 h0 q4
                clear HAT
                obtain ⟨e0, e1, e2, e3, e4, V, N⟩ := id HI.out
                replace V := Lib.hid V
                replace N := Lib.hid N
                generalize l[k] = d at *
                go_wp2_with fail
                refine (Validate_any d.v a1 c1 _ (V.out.below (by go_grown) (Nat.le_refl _))).mono ?_
                rintro e w2 ⟨rfl, hb⟩
                rw [RX.out]
                simp only [fltV]
                have hW : Below wr.heap.size wr w2 := bcall (by go_grown) hb (by simp)
                have hbl : b < w2.heap.size := by have := hW.size; omega
                have B2 : Below w.heap.size w w2 := bcall (by go_grown) hb (by go_size)
                have q2 : wr.heap.size + 1 ≤ w2.heap.size := by have z := hb.size; (try simp only [World.size_alloc] at z); omega
                replace V := Lib.hid ((V.out.below (Below.refl _ _ |>.alloc (Nat.le_refl _) _) (Nat.le_refl _)).below hb (Nat.le_refl _))
                replace N := Lib.hid ((N.out.below (Below.refl _ _ |>.alloc (Nat.le_refl _) _) (Nat.le_refl _)).below hb (Nat.le_refl _))
                have Y := ((Bk.new (r := wr.heap.size) (cs := [.int .i64 d.v.maj, .int .i64 d.v.min, .int .i64 d.v.pat, .slice a1 d.v.pre.length c1, .slice a2 d.ns.length c2]) _ 52 (by simp))).below hb (by go_size)
                clear hb
                have s2 : w.heap.size ≤ w2.heap.size := B2.size
                obtain ⟨Y_c, Y_f, Y_l⟩ := id Y
                clear e0 e1 e2 e3 e4
                go_wp2_with fail
                clear hbl
                refine wp_region_ord [0, 1, 2, 3, 4, 5, 6, 7, 8, 9, 10, 11, 12, 13] (by kernel_rfl) (by kernel_rfl) ?_
                have B3 : Below w.heap.size w (w2.alloc (.cells #[.int .i64 0, .int .i64 0] 30)).drew := by go_grown
                have q3 : w2.heap.size + 1 ≤ (w2.alloc (.cells #[.int .i64 0, .int .i64 0] 30)).drew.heap.size := by simp only [World.size_alloc, World.size_drew]; omega
                replace V := Lib.hid ((V.out.below (Below.refl _ _ |>.alloc (Nat.le_refl _) (.cells #[.int .i64 0, .int .i64 0] 30)) (Nat.le_refl _)).below (Below.refl _ _).drew (Nat.le_refl _))
                replace N := Lib.hid ((N.out.below (Below.refl _ _ |>.alloc (Nat.le_refl _) (.cells #[.int .i64 0, .int .i64 0] 30)) (Nat.le_refl _)).below (Below.refl _ _).drew (Nat.le_refl _))
                replace Y := (Y.alloc (.cells #[.int .i64 0, .int .i64 0] 30)).drew
                have Z := (Bk.new (r := w2.heap.size) (cs := [.int .i64 0, .int .i64 0]) w2 30 (by simp)).drew
                replace hW := (show Below wr.heap.size wr ((w2.alloc (.cells #[.int .i64 0, .int .i64 0] 30)).drew) by go_grown)
                clear Y_c Y_f Y_l
                generalize (w2.alloc (.cells #[.int .i64 0, .int .i64 0] 30)).drew = w3 at *
                have s3 : w.heap.size ≤ w3.heap.size := B3.size
                obtain ⟨Y_c, Y_f, Y_l⟩ := id Y
                obtain ⟨Z_c, Z_f, Z_l⟩ := id Z
                have hbl : b < w3.heap.size := by have := hW.size; omega
                obtain ⟨p0, p1, p2, p3, p4, PV, -⟩ := HP.out.below hW hlt (Nat.le_refl _)
                replace PV := Lib.hid PV
                repeat (first | (refine wpI_rd rfl rfl ?_; go_big_quiet_step (fail); refine wpQuiet_nil ?_) | (refine wpI_skip rfl rfl ?_; try simp only [Act.put, List.setIfInBounds_toArray, List.set_cons_zero, List.set_cons_succ]))
                try simp only [Act.put, List.setIfInBounds_toArray, List.set_cons_zero, List.set_cons_succ]
                refine wpI_call (f := 46) rfl rfl rfl (by simp [go_sem]; rfl) ?_
                refine (Order_any d.v p.v a1 a3 c1 c3' _ (VOk.of V.out OKX.out) (VOk.of PV.out OKP.out)).mono ?_
                rintro e w4 ⟨rfl, hb⟩
                rw [HK.out]
                have hW' := hW
                clear hW hbl
                have hW : Below wr.heap.size wr w4 := bcall hW' hb (by go_size)
                have hbl : b < w4.heap.size := by have := hW.size; omega
                clear hW'
                refine ⟨_, rfl, hb, ?_⟩
                skip
                have B4 : Below w.heap.size w w4 := bcall (by go_grown) hb (by go_size)
                have q4 : w3.heap.size + 0 ≤ w4.heap.size := by have z := hb.size; (try simp only [World.size_alloc, World.size_setCell, World.size_drew] at z); omega
                replace V := Lib.hid (V.out.below hb (Nat.le_refl _))
                replace N := Lib.hid (N.out.below hb (Nat.le_refl _))
                replace PV := Lib.hid (PV.out.below hb (Nat.le_refl _))
                replace Y := (Y).below hb (by go_size)
                replace Z := (Z).below hb (by go_size)
                clear hb
                have s4 : w.heap.size ≤ w4.heap.size := B4.size
                clear Y_c Y_f Y_l Z_c Z_f Z_l
                obtain ⟨Y_c, Y_f, Y_l⟩ := id Y
                obtain ⟨Z_c, Z_f, Z_l⟩ := id Z
                try simp only [Act.put, List.setIfInBounds_toArray, List.set_cons_zero, List.set_cons_succ]
                clear p0 p1 p2 p3 p4 HP
                repeat (first | (refine wpI_rd rfl rfl ?_; go_big_quiet_step (fail); refine wpQuiet_nil ?_) | (refine wpI_skip rfl rfl ?_; try simp only [Act.put, List.setIfInBounds_toArray, List.set_cons_zero, List.set_cons_succ]))
                try simp only [Act.put, List.setIfInBounds_toArray, List.set_cons_zero, List.set_cons_succ]
                refine wpI_nil ?_
                try simp only [Act.put, List.setIfInBounds_toArray, List.set_cons_zero, List.set_cons_succ]
                go_wp2_with fail
                refine (sNeeds_any d.ns a2 c2 n _ N.out).mono ?_
                rintro e w5 ⟨rfl, hb⟩
                rw [HD.out]
                have B5 : Below w.heap.size w w5 := bcall (by go_grown) hb (by go_size)
                have q5 : w4.heap.size + 0 ≤ w5.heap.size := by have z := hb.size; (try simp only [World.size_alloc, World.size_setCell, World.size_drew] at z); omega
                replace V := Lib.hid (V.out.below hb (Nat.le_refl _))
                replace N := Lib.hid (N.out.below hb (Nat.le_refl _))
                replace PV := Lib.hid (PV.out.below hb (Nat.le_refl _))
                replace Y := (Y).below hb (by go_size)
                replace Z := (Z).below hb (by go_size)
                clear hb
                have s5 : w.heap.size ≤ w5.heap.size := B5.size
                clear Y_c Y_f Y_l Z_c Z_f Z_l
                obtain ⟨Y_c, Y_f, Y_l⟩ := id Y
                obtain ⟨Z_c, Z_f, Z_l⟩ := id Z
                go_wp2_with fail
                go_ret
                exact ⟨by rw [E.out]; rfl, by go_grown⟩
        · obtain ⟨X, hX⟩ : ∃ X, Pl.vrF l[k].v = X := ⟨_, rfl⟩
          obtain ⟨x1, x2⟩ := X
          have RX := Lib.hid hX
          have t8 : (x1 == 0) = false := beqF (by rw [hX] at c3; exact c3)
          have t9 : (x1 != 0) = true := bneT (by rw [hX] at c3; exact c3)
          have E := Lib.hid (HGO.out.2 (by rw [Pl.relI_v hlt2 c3]; exact c3))
          rw [Pl.relI_v hlt2 c3, hX] at E
          clear HGO hu HF hk c3 hX
          clear HAT
          obtain ⟨e0, e1, e2, e3, e4, V, N⟩ := id HI.out
          replace V := Lib.hid V
          replace N := Lib.hid N
          generalize l[k] = d at *
          go_wp2_with fail
          refine (Validate_any d.v a1 c1 _ (V.out.below (by go_grown) (Nat.le_refl _))).mono ?_
          rintro e w2 ⟨rfl, hb⟩
          rw [RX.out]
          simp only [fltV]
          have hW : Below wr.heap.size wr w2 := bcall (by go_grown) hb (by simp)
          have hbl : b < w2.heap.size := by have := hW.size; omega
          have B2 : Below w.heap.size w w2 := bcall (by go_grown) hb (by go_size)
          have q2 : wr.heap.size + 1 ≤ w2.heap.size := by have z := hb.size; (try simp only [World.size_alloc] at z); omega
          replace V := Lib.hid ((V.out.below (Below.refl _ _ |>.alloc (Nat.le_refl _) _) (Nat.le_refl _)).below hb (Nat.le_refl _))
          replace N := Lib.hid ((N.out.below (Below.refl _ _ |>.alloc (Nat.le_refl _) _) (Nat.le_refl _)).below hb (Nat.le_refl _))
          have Y := ((Bk.new (r := wr.heap.size) (cs := [.int .i64 d.v.maj, .int .i64 d.v.min, .int .i64 d.v.pat, .slice a1 d.v.pre.length c1, .slice a2 d.ns.length c2]) _ 52 (by simp))).below hb (by go_size)
          clear hb
          have s2 : w.heap.size ≤ w2.heap.size := B2.size
          obtain ⟨Y_c, Y_f, Y_l⟩ := id Y
          clear e0 e1 e2 e3 e4
          go_wp2_with fail
          go_ret
          exact ⟨by rw [E.out]; rfl, by go_grown⟩
      · have E := Lib.hid (Pl.codeAt_end (by omega) hu.out.1)
        have t2 : decide ((k : Int) < (l.length : Int)) = false := by simp; omega
        have t3 : decide (k < l.length) = false := by simp; omega
        go_wp2_with fail
        go_ret
        exact ⟨by rw [E.out]; rfl, by go_grown⟩
end Go.Proofs.YtgngehfgcogceaaGreatDoor
