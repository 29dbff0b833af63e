/- Contract: the code of a list of needs, by the program. -/
import Derived.Test.YtgngehfgcogceaaGreatDoorZMKo
import Derived.Test.YtgngehfgcogceaaGreatDoorZDh
namespace Go.Proofs.YtgngehfgcogceaaGreatDoor
open Go.RowKit

set_option maxRecDepth 100000 in
set_option maxHeartbeats 4000000 in
theorem sNeeds_any (l : List Pl.Need) (a : Option Addr) (c : Nat) (n : Int) (w : World) (h : NsIn w l a c) :
    Calls Tryz.prog 36 #[.slice a l.length c, .int .i64 n] w fun e w' => e = .returned (.int .i64 (Pl.needsC n l)) ∧ Below w.heap.size w w' := by
  have hm := h.len
  obtain ⟨C, hC⟩ : ∃ C, Pl.needsC n l = C := ⟨_, rfl⟩
  rw [hC]
  have H := Lib.hid h
  clear h
  by_cases hn : 4 < l.length
  · have E : C = 2 := by rw [← hC]; unfold Pl.needsC; rw [if_pos hn]
    subst E
    have t1 : decide ((4 : Int) < (l.length : Int)) = true := by simp; omega
    clear hC hn
    go_enter Tryz.func36, Tryz.ntmps36
    go_wp2_with fail
    go_ret
    exact ⟨rfl, Below.refl _ _⟩
  · obtain ⟨F, hF⟩ : ∃ F, Pl.codeAt (Pl.needI n l) l.length 0 = F := ⟨_, rfl⟩
    have E : C = F.1 := by rw [← hC, ← hF]; unfold Pl.needsC; rw [if_neg hn]
    subst E
    have HF := Lib.hid hF
    have t1 : decide ((4 : Int) < (l.length : Int)) = false := by simp; omega
    clear hC hF hn
    go_enter Tryz.func36, Tryz.ntmps36
    go_wp2_with fail
    go_loopw [13] (fun i wr => ∃ k : Nat, k ≤ l.length ∧ i = .int .i64 k ∧ Hid (Pl.codeAt (Pl.needI n l) l.length k = F) ∧ Below w.heap.size w wr) (fun i _ => l.length - (intOf i).toNat)
    case atStart => exact ⟨0, Nat.zero_le _, rfl, HF, Below.refl _ _⟩
    case round =>
      obtain ⟨k, hk, rfl, hu, B1⟩ := hrel
      have s1 : w.heap.size ≤ wr.heap.size := B1.size
      by_cases hlt2 : k < l.length
      · obtain ⟨b, off, rfl, hlt, hat⟩ := (H.out.below B1 (Nat.le_refl _)).at (by omega)
        obtain ⟨a1, c1, I⟩ := hat k hlt2
        have HGO := Lib.hid (Pl.codeAt_go hlt2 hu.out)
        have HAT := Lib.hid hat
        have HI := Lib.hid I
        clear hat I
        have tz : decide (k < l.length) = true := by simp; omega
        have ty : decide ((k : Int) < (l.length : Int)) = true := by simp; omega
        by_cases q1 : l[k].pk < 0
        · have t2 := decide_eq_true q1
          have E := Lib.hid (HGO.out.2 (by rw [Pl.needI_low hlt2 q1]; decide))
          rw [Pl.needI_low hlt2 q1] at E
          clear q1
          clear HGO hu HF hk
          clear HAT
          obtain ⟨e0, e1, G⟩ := id HI.out
          replace G := Lib.hid G
          generalize l[k] = d at *
          go_wp2_with fail
          go_ret
          exact ⟨by rw [E.out]; rfl, by first | exact Go.below_drewN (by go_grown) _ | go_grown⟩
        · have t2 := decide_eq_false q1
          by_cases q2 : n ≤ l[k].pk
          · have t3 := decide_eq_true q2
            have E := Lib.hid (HGO.out.2 (by rw [Pl.needI_high hlt2 q2]; decide))
            rw [Pl.needI_high hlt2 q2] at E
            clear q1 q2
            clear HGO hu HF hk
            clear HAT
            obtain ⟨e0, e1, G⟩ := id HI.out
            replace G := Lib.hid G
            generalize l[k] = d at *
            go_wp2_with fail
            go_ret
            exact ⟨by rw [E.out]; rfl, by first | exact Go.below_drewN (by go_grown) _ | go_grown⟩
          · have t3 := decide_eq_false q2
            by_cases c3 : (Pl.rngF l[k].rg).1 = 0
            · have RX := Lib.hid (Pl.rngF_ne c3)
              by_cases h0 : k = 0
              · have t5 : decide (0 < k) = false := by simp; omega
                have t6 : decide ((0 : Int) < (k : Int)) = false := by simp; omega
                have E := Lib.hid (HGO.out.1 (Pl.needI_first hlt2 (by omega) (by omega) (Pl.rngF_ne c3) h0))
                clear q1 q2 c3 h0
                clear HGO hu HF hk
                clear HAT
                obtain ⟨e0, e1, G⟩ := id HI.out
                replace G := Lib.hid G
                generalize l[k] = d at *
                go_wp2_with fail
                refine (rngValidate_any d.rg a1 c1 _ (G.out.below (by go_grown) (Nat.le_refl _))).mono ?_
                rintro e w2 ⟨rfl, hb⟩
                rw [RX.out]
                simp only [fltV]
                have hW : Below wr.heap.size wr w2 := bcall (by go_grown) hb (by simp)
                have B2 : Below w.heap.size w w2 := bcall (by go_grown) hb (by go_size)
                have q2 : wr.heap.size + 1 ≤ w2.heap.size := by have z := hb.size; (try simp only [World.size_alloc] at z); omega
                replace G := Lib.hid ((G.out.below (Below.refl _ _ |>.alloc (Nat.le_refl _) _) (Nat.le_refl _)).below hb (Nat.le_refl _))
                have Y := ((Bk.new (r := wr.heap.size) (cs := [.int .i64 d.pk, .slice a1 d.rg.length c1]) _ 46 (by simp))).below hb (by go_size)
                clear hb
                have s2 : w.heap.size ≤ w2.heap.size := B2.size
                obtain ⟨Y_c, Y_f, Y_l⟩ := id Y
                clear e0 e1
                have hbl : b < w2.heap.size := by omega
                clear hW HI
                go_wp2_with fail
                go_quiet (fail)
                go_wp2_with fail
                go_roundw
                case rel => exact ⟨k + 1, hlt2, by go_num, E, by first | exact Go.below_drewN (by go_grown) _ | go_grown⟩
                case measure => simp [intOf]; omega
              · have hpos : 0 < k := by omega
                by_cases q3 : l[k].pk ≤ (l[k - 1]'(by omega)).pk
                · have t7 := decide_eq_true q3
                  have E := Lib.hid (HGO.out.2 (by rw [Pl.needI_bad hlt2 (by omega) (by omega) (Pl.rngF_ne c3) hpos q3]; decide))
                  rw [Pl.needI_bad hlt2 (by omega) (by omega) (Pl.rngF_ne c3) hpos q3] at E
                  clear q1 q2 c3 h0 q3
                  clear HGO hu HF hk
                  obtain ⟨a2, c2, P⟩ := HAT.out (k - 1) (by omega)
                  obtain ⟨i1, i2, i3, i4, i5, i6, i7⟩ := idx_prev hpos hlt2 (by omega)
                  have HP := Lib.hid P
                  clear P
                  obtain ⟨p, hp⟩ : ∃ p, l[k - 1]'(by omega) = p := ⟨_, rfl⟩
                  rw [hp] at HP t7
                  clear hp
                  clear HAT
                  obtain ⟨e0, e1, G⟩ := id HI.out
                  replace G := Lib.hid G
                  generalize l[k] = d at *
                  go_wp2_with fail
                  refine (rngValidate_any d.rg a1 c1 _ (G.out.below (by go_grown) (Nat.le_refl _))).mono ?_
                  rintro e w2 ⟨rfl, hb⟩
                  rw [RX.out]
                  simp only [fltV]
                  have hW : Below wr.heap.size wr w2 := bcall (by go_grown) hb (by simp)
                  have B2 : Below w.heap.size w w2 := bcall (by go_grown) hb (by go_size)
                  have q2 : wr.heap.size + 1 ≤ w2.heap.size := by have z := hb.size; (try simp only [World.size_alloc] at z); omega
                  replace G := Lib.hid ((G.out.below (Below.refl _ _ |>.alloc (Nat.le_refl _) _) (Nat.le_refl _)).below hb (Nat.le_refl _))
                  have Y := ((Bk.new (r := wr.heap.size) (cs := [.int .i64 d.pk, .slice a1 d.rg.length c1]) _ 46 (by simp))).below hb (by go_size)
                  clear hb
                  have s2 : w.heap.size ≤ w2.heap.size := B2.size
                  obtain ⟨Y_c, Y_f, Y_l⟩ := id Y
                  clear e0 e1
                  obtain ⟨p0, p1, -⟩ := HP.out.below hW hlt (Nat.le_refl _)
                  have hbl : b < w2.heap.size := by omega
                  clear hW HI
                  clear HP
                  go_wp2_with fail
                  go_quiet (fail)
                  go_wp2_with fail
                  go_ret
                  exact ⟨by rw [E.out]; rfl, by first | exact Go.below_drewN (by go_grown) _ | go_grown⟩
                · have t7 := decide_eq_false q3
                  have E := Lib.hid (HGO.out.1 (Pl.needI_good hlt2 (by omega) (by omega) (Pl.rngF_ne c3) hpos (by omega)))
                  clear q1 q2 c3 h0 q3
                  clear HGO hu HF hk
                  obtain ⟨a2, c2, P⟩ := HAT.out (k - 1) (by omega)
                  obtain ⟨i1, i2, i3, i4, i5, i6, i7⟩ := idx_prev hpos hlt2 (by omega)
                  have HP := Lib.hid P
                  clear P
                  obtain ⟨p, hp⟩ : ∃ p, l[k - 1]'(by omega) = p := ⟨_, rfl⟩
                  rw [hp] at HP t7
                  clear hp
                  clear HAT
                  obtain ⟨e0, e1, G⟩ := id HI.out
                  replace G := Lib.hid G
                  generalize l[k] = d at *
                  go_wp2_with fail
                  refine (rngValidate_any d.rg a1 c1 _ (G.out.below (by go_grown) (Nat.le_refl _))).mono ?_
                  rintro e w2 ⟨rfl, hb⟩
                  rw [RX.out]
                  simp only [fltV]
                  have hW : Below wr.heap.size wr w2 := bcall (by go_grown) hb (by simp)
                  have B2 : Below w.heap.size w w2 := bcall (by go_grown) hb (by go_size)
                  have q2 : wr.heap.size + 1 ≤ w2.heap.size := by have z := hb.size; (try simp only [World.size_alloc] at z); omega
                  replace G := Lib.hid ((G.out.below (Below.refl _ _ |>.alloc (Nat.le_refl _) _) (Nat.le_refl _)).below hb (Nat.le_refl _))
                  have Y := ((Bk.new (r := wr.heap.size) (cs := [.int .i64 d.pk, .slice a1 d.rg.length c1]) _ 46 (by simp))).below hb (by go_size)
                  clear hb
                  have s2 : w.heap.size ≤ w2.heap.size := B2.size
                  obtain ⟨Y_c, Y_f, Y_l⟩ := id Y
                  clear e0 e1
                  obtain ⟨p0, p1, -⟩ := HP.out.below hW hlt (Nat.le_refl _)
                  have hbl : b < w2.heap.size := by omega
                  clear hW HI
                  clear HP
                  go_wp2_with fail
                  go_quiet (fail)
                  go_wp2_with fail
                  go_roundw
                  case rel => exact ⟨k + 1, hlt2, by go_num, E, by first | exact Go.below_drewN (by go_grown) _ | go_grown⟩
                  case measure => simp [intOf]; omega
            · obtain ⟨X, hX⟩ : ∃ X, Pl.rngF l[k].rg = X := ⟨_, rfl⟩
              obtain ⟨x1, x2⟩ := X
              have RX := Lib.hid hX
              have t8 : (x1 == 0) = false := beqF (by rw [hX] at c3; exact c3)
              have t9 : (x1 != 0) = true := bneT (by rw [hX] at c3; exact c3)
              have E := Lib.hid (HGO.out.2 (by rw [Pl.needI_rng hlt2 (by omega) (by omega) c3]; exact c3))
              rw [Pl.needI_rng hlt2 (by omega) (by omega) c3] at E
              rw [hX] at E
              clear q1 q2 c3 hX
              clear HGO hu HF hk
              clear HAT
              obtain ⟨e0, e1, G⟩ := id HI.out
              replace G := Lib.hid G
              generalize l[k] = d at *
              go_wp2_with fail
              refine (rngValidate_any d.rg a1 c1 _ (G.out.below (by go_grown) (Nat.le_refl _))).mono ?_
              rintro e w2 ⟨rfl, hb⟩
              rw [RX.out]
              simp only [fltV]
              have hW : Below wr.heap.size wr w2 := bcall (by go_grown) hb (by simp)
              have B2 : Below w.heap.size w w2 := bcall (by go_grown) hb (by go_size)
              have q2 : wr.heap.size + 1 ≤ w2.heap.size := by have z := hb.size; (try simp only [World.size_alloc] at z); omega
              replace G := Lib.hid ((G.out.below (Below.refl _ _ |>.alloc (Nat.le_refl _) _) (Nat.le_refl _)).below hb (Nat.le_refl _))
              have Y := ((Bk.new (r := wr.heap.size) (cs := [.int .i64 d.pk, .slice a1 d.rg.length c1]) _ 46 (by simp))).below hb (by go_size)
              clear hb
              have s2 : w.heap.size ≤ w2.heap.size := B2.size
              obtain ⟨Y_c, Y_f, Y_l⟩ := id Y
              clear e0 e1
              have hbl : b < w2.heap.size := by omega
              clear hW HI
              go_wp2_with fail
              go_ret
              exact ⟨by rw [E.out]; rfl, by first | exact Go.below_drewN (by go_grown) _ | go_grown⟩
      · have E := Lib.hid (Pl.codeAt_end (by omega) hu.out)
        have t2 : decide ((k : Int) < (l.length : Int)) = false := by simp; omega
        have t3 : decide (k < l.length) = false := by simp; omega
        go_wp2_with fail
        go_ret
        exact ⟨by rw [E.out]; rfl, by go_grown⟩
end Go.Proofs.YtgngehfgcogceaaGreatDoor
