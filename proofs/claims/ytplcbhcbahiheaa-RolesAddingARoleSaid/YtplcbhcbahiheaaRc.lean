/- Contracts: the fault of a tree of roles, by the program and by the reference. -/
import Derived.Test.YtplcbhcbahiheaaRb
namespace Go.Proofs.Ytplcbhcbahiheaa
open Go.RowKit

set_option maxHeartbeats 400000 in
theorem rolesValidate_any (rs : List Pl.Role) (oa : Option Addr) (cap : Nat) (w : World) (hr : RolesIn w oa cap rs) :
    Calls Try.prog 32 #[.slice oa rs.length cap] w fun e w' => e = .returned (.agg #[.int .i64 (Pl.rolesF rs).1, .int .i64 (Pl.rolesF rs).2]) ∧ Below w.heap.size w w' := by
  have hm := hr.len
  by_cases hn : Pl.inB (rs.length : Int) 1 12 = true
  · have e1 : Pl.rolesF rs = Pl.rolesAt rs rs.length 0 := by rw [Pl.rolesF, if_pos hn]
    rw [e1]
    clear e1
    have hl := Pl.inB_true.1 hn
    have hl1 := hl.1
    have hl2 := hl.2
    clear hl
    generalize hF : Pl.rolesAt rs rs.length 0 = F
    have HF := Lib.hid hF
    clear hF
    have t1 : ((rs.length : Int) == 0) = false := beq_eq_false_iff_ne.2 (by omega)
    have t2 : decide ((12 : Int) < (rs.length : Int)) = false := by simp; omega
    clear hn
    go_enter Try.func32, Try.ntmps32
    go_wp2_with fail
    go_loopw [16] (fun i wr => ∃ k : Nat, k ≤ rs.length ∧ i = .int .i64 k ∧ Hid (Pl.rolesAt rs (rs.length - k) k = F) ∧ Below (w.heap.size + 1) (w.alloc (.cells #[.int .i64 0, .int .i64 0] 24)) wr) (fun i _ => rs.length - (intOf i).toNat)
    case atStart => exact ⟨0, Nat.zero_le _, rfl, HF.out, Below.refl _ _⟩
    case round =>
      obtain ⟨k, hk, rfl, hu, hb⟩ := hrel
      have B1 : Below w.heap.size w wr := bcall (by go_grown) hb (by simp)
      have X1 := (Box2.new w (.int .i64 0) (.int .i64 0) 24).below hb (by simp)
      by_cases hlt2 : k < rs.length
      · have HS := Lib.hid (Pl.rolesAt_step rs k hlt2)
        have u0 : (k : Int) < (rs.length : Int) := by omega
        go_wp2_with fail
        refine (check_any rs k oa cap _ (hr.below B1 (Nat.le_refl _)) hlt2).mono ?_
        rintro e w2 ⟨rfl, hb2⟩
        have hb3 := bcall hb hb2 (by have := X1.lt; omega)
        have B2 : Below w.heap.size w w2 := bcall (by go_grown) hb3 (by simp)
        obtain ⟨c0, c1, f0, f1, l1⟩ := X1.below hb2 X1.lt
        generalize Pl.roleC rs k = C at *
        by_cases hC : C = 0
        · have E := Lib.hid (show Pl.rolesAt rs (rs.length - (k + 1)) (k + 1) = F by rw [← hu.out, HS.out, if_pos hC])
          subst hC
          go_wp2_with fail
          go_roundw
          case rel => exact ⟨k + 1, hlt2, by go_num, E.out, hb3⟩
          case measure => simp [intOf]; omega
        · have E := Lib.hid (show F = (C, (k : Int)) by rw [← hu.out, HS.out, if_neg hC])
          have t3 : (C == 0) = false := by simp [hC]
          have t4 : (C != 0) = true := by simp [hC]
          clear hC
          go_wp2_with fail
          refine bodyPost_ret (v := .agg #[.int .i64 C, .int .i64 (k : Int)]) (by simp [results, Try.results32, go_sem, c0, c1]) rfl ⟨by rw [E.out], by go_grown⟩
      · have hk2 : k = rs.length := by omega
        have E := Lib.hid (show F = (0, 0) by rw [← hu.out, hk2, Pl.rolesAt_end])
        have t5 : decide (k < rs.length) = false := by simp; omega
        have t6 : decide ((k : Int) < (rs.length : Int)) = false := by simp; omega
        obtain ⟨c0, c1, f0, f1, l1⟩ := X1
        clear hk2 hlt2
        go_wp2_with fail
        refine bodyPost_ret (v := .agg #[.int .i64 0, .int .i64 0]) (by simp [results, Try.results32, go_sem, c0, c1]) rfl ⟨by rw [E.out], by go_grown⟩
  · have hn : Pl.inB (rs.length : Int) 1 12 = false := by simpa using hn
    have e1 : Pl.rolesF rs = (9, -1) := by rw [Pl.rolesF, hn]; rfl
    rw [e1]
    have hl := Pl.inB_false.1 hn
    by_cases h0 : rs.length = 0
    · have t1 : ((rs.length : Int) == 0) = true := beq_iff_eq.2 (by omega)
      clear hn hl e1
      go_enter Try.func32, Try.ntmps32
      go_wp2_with fail
      refine bodyPost_ret (v := .agg #[.int .i64 9, .int .i64 (-1)]) (by simp [results, Try.results32, go_sem]) rfl ⟨rfl, by go_grown⟩
    · have t1 : ((rs.length : Int) == 0) = false := beq_eq_false_iff_ne.2 (by omega)
      have t2 : decide ((12 : Int) < (rs.length : Int)) = true := by simp; omega
      clear hn hl e1 h0
      go_enter Try.func32, Try.ntmps32
      go_wp2_with fail
      refine bodyPost_ret (v := .agg #[.int .i64 9, .int .i64 (-1)]) (by simp [results, Try.results32, go_sem]) rfl ⟨rfl, by go_grown⟩
set_option maxRecDepth 100000 in
set_option maxHeartbeats 2000000 in
theorem RolesFault_any (rs : List Pl.Role) (oa : Option Addr) (cap : Nat) (w : World) (hr : RolesIn w oa cap rs) :
    Calls Try.prog 33 #[.slice oa rs.length cap] w fun e w' => e = .returned (.agg #[.int .i64 (Pl.rolesF rs).1, .int .i64 (Pl.rolesF rs).2]) ∧ Below w.heap.size w w' := by
  have hm := hr.len
  by_cases hn : Pl.inB (rs.length : Int) 1 12 = true
  · have e1 : Pl.rolesF rs = Pl.rolesAt rs rs.length 0 := by rw [Pl.rolesF, if_pos hn]
    rw [e1]
    clear e1
    have hl := Pl.inB_true.1 hn
    have hl1 := hl.1
    have hl2 := hl.2
    clear hl
    generalize hF : Pl.rolesAt rs rs.length 0 = F
    have HF := Lib.hid hF
    clear hF
    go_enter Try.func33, Try.ntmps33
    go_wp2_with (go_at_call 52; refine (rin_any _ _ _ _).mono ?_; rintro e w' ⟨rfl, rfl⟩)
    go_loopw [3] (fun i wr => ∃ k : Nat, k ≤ rs.length ∧ i = .int .i64 k ∧ Hid (Pl.rolesAt rs (rs.length - k) k = F) ∧ Below (w.heap.size + 1) (w.alloc (.cells #[.int .i64 0, .int .i64 0] 24)) wr) (fun i _ => rs.length - (intOf i).toNat)
    case atStart => exact ⟨0, Nat.zero_le _, rfl, HF.out, Below.refl _ _⟩
    case round =>
      obtain ⟨k, hk, rfl, hu, hb⟩ := hrel
      have B1 : Below w.heap.size w wr := bcall (by go_grown) hb (by simp)
      have X1 := (Box2.new w (.int .i64 0) (.int .i64 0) 24).below hb (by simp)
      have s1 := B1.size
      clear hn
      by_cases hlt2 : k < rs.length
      · have HS := Lib.hid (Pl.rolesAt_step rs k hlt2)
        have u0 : (k : Int) < (rs.length : Int) := by omega
        have u1 : decide (k < rs.length) = true := by simp; omega
        obtain ⟨b, off, rfl, hlt, hat⟩ := (hr.below B1 (Nat.le_refl _)).at (by omega)
        clear hr
        obtain ⟨ka, kc, R⟩ := hat k hlt2
        obtain ⟨c0, c1, f0, f1, l1⟩ := X1
        by_cases h0 : k = 0
        · by_cases hp : (rs.getD k Pl.Role.zero).parent = -1
          · by_cases hq : (rs.getD k Pl.Role.zero).pre.size = 0
            · have E := Pl.roleC_thr (rs := rs) (i := k) (by unfold Pl.parBad; simp [h0] at hp ⊢; simp [hp]) (by unfold Pl.preBad; simp [h0] at hq ⊢; simp [hq])
              generalize hr : rs.getD k Pl.Role.zero = r at *
              obtain ⟨pa, pr, ks, nd⟩ := r
              obtain ⟨d0, d1, d2, d3, hkS, hkl, hpl⟩ := R
              replace hr := Lib.hid hr
              replace E := Lib.hid E
              have t1 : ((k : Int) == 0) = true := by simp [h0]
              have t2 : (pa == -1) = true := by simpa using hp
              have t3 : (pa != -1) = false := by simpa using hp
              have t4 : decide (0 < k) = false := by simp; omega
              have t4' : decide ((0 : Int) < (k : Int)) = false := by simp; omega
              have t5 : pr.toList.isEmpty = true := by rw [Pl.toList_nil hq]; rfl
              have t6 : decide ((60 : Int) < (pr.size : Int)) = false := by simp at hq ⊢; simp [hq]
              have t7 : pr.toList = [] := Pl.toList_nil hq
              clear hp h0 hq
              clear hat
              go_wp2_with (go_at_call 52; refine (rin_any _ _ _ _).mono ?_; rintro e w' ⟨rfl, rfl⟩)
              go_quiet (fail)
              go_wp2_with fail
              refine (ThresholdFault_any ks nd ka kc _ (hkS.below (by first | (go_grown; done) | exact below_drewN (by go_grown) _) (Nat.le_refl _)) hkl).mono ?_
              rintro e w2 ⟨rfl, hb2⟩
              have B2 : Below w.heap.size w w2 := bcall (by first | (go_grown; done) | exact below_drewN (by go_grown) _) hb2 (by have := s1; simp; omega)
              have hb3 : Below (w.heap.size + 1) (w.alloc (.cells #[.int .i64 0, .int .i64 0] 24)) w2 := bcall (below_drewN (hb.alloc (by have := l1; omega) _) _) hb2 (by have := l1; simp; omega)
              obtain ⟨c0, c1, f0, f1, l1⟩ := ((Box2.alloc (Box2.mk c0 c1 f0 f1 l1) (.cells #[.int .i64 pa, .string pr, .slice ka ks.length kc, .int .i64 nd] 55)).drewN _).below hb2 (by have := l1; simp; omega)
              have s2 := B2.size
              generalize (Pl.thrF ks nd).1 = C at *
              generalize (Pl.thrF ks nd).2 = D at *
              by_cases hC : C = 0
              · have EF := Lib.hid (show Pl.rolesAt rs (rs.length - (k + 1)) (k + 1) = F by rw [← hu.out, HS.out, if_pos (E.out.trans hC)])
                subst hC
                clear HS E
                go_wp2_with fail
                go_roundw
                case rel => exact ⟨k + 1, hlt2, by go_num, EF.out, hb3.alloc (by have := l1; omega) _⟩
                case measure => simp [intOf]; omega
              · have EF := Lib.hid (show F = (C, (k : Int)) by rw [← hu.out, HS.out, if_neg (by rw [E.out]; exact hC), E.out])
                have t9 : (C == 0) = false := by simp [hC]
                have t10 : (C != 0) = true := by simp [hC]
                clear HS E hC
                go_wp2_with fail
                refine (rfault_any _ _ _).mono ?_
                rintro e w3 ⟨rfl, hb4⟩
                have B3 : Below w.heap.size w w3 := bcall (by go_grown) hb4 (by simp; omega)
                obtain ⟨c0, c1, f0, f1, l1⟩ := ((Box2.mk c0 c1 f0 f1 l1).alloc (.cells #[.int .i64 C, .int .i64 D] 24)).below hb4 (by have := l1; simp; omega)
                go_wp2_with fail
                refine bodyPost_ret (v := .agg #[.int .i64 C, .int .i64 (k : Int)]) (by simp [results, Try.results33, go_sem, c0, c1]) rfl ⟨by rw [EF.out], by go_grown⟩
            · have E := Pl.roleC_pre (rs := rs) (i := k) (by unfold Pl.parBad; simp [h0] at hp ⊢; simp [hp]) (by unfold Pl.preBad; simp [h0] at hq ⊢; simp [hq])
              generalize hr : rs.getD k Pl.Role.zero = r at *
              obtain ⟨pa, pr, ks, nd⟩ := r
              obtain ⟨d0, d1, d2, d3, hkS, hkl, hpl⟩ := R
              replace hr := Lib.hid hr
              replace E := Lib.hid E
              have t1 : ((k : Int) == 0) = true := by simp [h0]
              have t2 : (pa == -1) = true := by simpa using hp
              have t3 : (pa != -1) = false := by simpa using hp
              have t4 : decide (0 < k) = false := by simp; omega
              have t4' : decide ((0 : Int) < (k : Int)) = false := by simp; omega
              have t5 := Pl.toList_ne hq
              have t6 : !pr.toList.isEmpty = true := by rw [t5]; rfl
              clear hp h0 hq
              have EF := Lib.hid (show F = (12, (k : Int)) by rw [← hu.out, HS.out, E.out]; rfl)
              clear HS E hat
              go_wp2_with (go_at_call 52; refine (rin_any _ _ _ _).mono ?_; rintro e w' ⟨rfl, rfl⟩)
              go_quiet (fail)
              go_wp2_with fail
              refine (rfault_any _ _ _).mono ?_
              rintro e w2 ⟨rfl, hb2⟩
              have B2 : Below w.heap.size w w2 := bcall (by first | (go_grown; done) | exact below_drewN (by go_grown) _) hb2 (by have := s1; simp; omega)
              obtain ⟨c0, c1, f0, f1, l1⟩ := ((Box2.alloc (Box2.mk c0 c1 f0 f1 l1) (.cells #[.int .i64 pa, .string pr, .slice ka ks.length kc, .int .i64 nd] 55)).drewN _).below hb2 (by have := l1; simp; omega)
              go_wp2_with fail
              refine bodyPost_ret (v := .agg #[.int .i64 12, .int .i64 (k : Int)]) (by simp [results, Try.results33, go_sem, c0, c1]) rfl ⟨by rw [EF.out], by go_grown⟩
          · have E := Pl.roleC_par (rs := rs) (i := k) (by unfold Pl.parBad; simp [h0] at hp ⊢; simp [hp])
            generalize hr : rs.getD k Pl.Role.zero = r at *
            obtain ⟨pa, pr, ks, nd⟩ := r
            obtain ⟨d0, d1, d2, d3, hkS, hkl, hpl⟩ := R
            replace hr := Lib.hid hr
            replace E := Lib.hid E
            have t1 : ((k : Int) == 0) = true := by simp [h0]
            have t2 : (pa == -1) = false := by simpa using hp
            have t3 : (pa != -1) = true := by simpa using hp
            clear hp h0
            have EF := Lib.hid (show F = (3, (k : Int)) by rw [← hu.out, HS.out, E.out]; rfl)
            clear HS E hat
            go_wp2_with (go_at_call 52; refine (rin_any _ _ _ _).mono ?_; rintro e w' ⟨rfl, rfl⟩)
            refine (rfault_any _ _ _).mono ?_
            rintro e w2 ⟨rfl, hb2⟩
            have B2 : Below w.heap.size w w2 := bcall (by first | (go_grown; done) | exact below_drewN (by go_grown) _) hb2 (by have := s1; simp; omega)
            obtain ⟨c0, c1, f0, f1, l1⟩ := ((Box2.alloc (Box2.mk c0 c1 f0 f1 l1) (.cells #[.int .i64 pa, .string pr, .slice ka ks.length kc, .int .i64 nd] 55))).below hb2 (by have := l1; simp; omega)
            go_wp2_with fail
            refine bodyPost_ret (v := .agg #[.int .i64 3, .int .i64 (k : Int)]) (by simp [results, Try.results33, go_sem, c0, c1]) rfl ⟨by rw [EF.out], by go_grown⟩
        · have h0 : 0 < k := by omega
          by_cases hp : Pl.inB (rs.getD k Pl.Role.zero).parent 0 ((k : Int) - 1) = true
          · have hp9 := Pl.inB_true.1 hp
            by_cases hq : 60 < (rs.getD k Pl.Role.zero).pre.size
            · have E := Pl.roleC_pre (rs := rs) (i := k) (by rw [Pl.parBad, hp]; simp; omega) (by rw [Pl.preBad, show decide (60 < ((rs.getD k Pl.Role.zero).pre.size : Int)) = true from decide_eq_true (by omega)]; simp)
              clear hp9
              generalize hr : rs.getD k Pl.Role.zero = r at *
              obtain ⟨pa, pr, ks, nd⟩ := r
              obtain ⟨d0, d1, d2, d3, hkS, hkl, hpl⟩ := R
              replace hr := Lib.hid hr
              replace E := Lib.hid E
              have t1 : ((k : Int) == 0) = false := by simp; omega
              have t2 : decide (0 < k) = true := by simp; omega
              have t2' : decide ((0 : Int) < (k : Int)) = true := by simp; omega
              have t6 : decide ((60 : Int) < (pr.size : Int)) = true := by simp at hq ⊢; omega
              clear h0 hq
              have EF := Lib.hid (show F = (12, (k : Int)) by rw [← hu.out, HS.out, E.out]; rfl)
              clear HS E hat
              go_wp2_with (go_at_call 52; refine (rin_any _ _ _ _).mono ?_; rintro e w' ⟨rfl, rfl⟩)
              go_quiet (fail)
              go_wp2_with fail
              refine (rfault_any _ _ _).mono ?_
              rintro e w2 ⟨rfl, hb2⟩
              have B2 : Below w.heap.size w w2 := bcall (by first | (go_grown; done) | exact below_drewN (by go_grown) _) hb2 (by have := s1; simp; omega)
              obtain ⟨c0, c1, f0, f1, l1⟩ := ((Box2.alloc (Box2.mk c0 c1 f0 f1 l1) (.cells #[.int .i64 pa, .string pr, .slice ka ks.length kc, .int .i64 nd] 55)).drewN _).below hb2 (by have := l1; simp; omega)
              go_wp2_with fail
              refine bodyPost_ret (v := .agg #[.int .i64 12, .int .i64 (k : Int)]) (by simp [results, Try.results33, go_sem, c0, c1]) rfl ⟨by rw [EF.out], by go_grown⟩
            · obtain ⟨p, hpe⟩ := Int.eq_ofNat_of_zero_le hp9.1
              cases hst : Pl.startsB (rs.getD k Pl.Role.zero).pre (rs.getD (rs.getD k Pl.Role.zero).parent.toNat Pl.Role.zero).pre with
              | false =>
                have h3 : decide (60 < ((rs.getD k Pl.Role.zero).pre.size : Int)) = false := decide_eq_false (by omega)
                have E := Pl.roleC_pre (rs := rs) (i := k) (by rw [Pl.parBad, hp]; simp; omega) (by unfold Pl.preBad; rw [hst]; simp; omega)
                obtain ⟨ka2, kc2, R2⟩ := hat p (by omega)
                have d5 := R2.c1
                have d6 := R2.pl
                clear R2 hp9
                rw [hpe] at hst
                have HST := Lib.hid hst
                clear hst h3
                have HP := Lib.hid hp
                clear hp
                have HPE := Lib.hid hpe
                generalize hr : rs.getD k Pl.Role.zero = r at *
                obtain ⟨pa, pr, ks, nd⟩ := r
                obtain ⟨d0, d1, d2, d3, hkS, hkl, hpl⟩ := R
                replace hr := Lib.hid hr
                replace E := Lib.hid E
                obtain rfl : pa = (p : Int) := hpe
                clear HPE
                have hst := HST.out
                have hp := HP.out
                simp only [Int.toNat_natCast] at hst
                generalize (rs.getD p Pl.Role.zero).pre = pp at *
                have t0 : (p : Int) < (rs.length : Int) := by have := Pl.inB_true.1 hp; simp at this; omega
                have t8 : (0 : Int) ≤ (p : Int) := by omega
                have t1 : ((k : Int) == 0) = false := by simp; omega
                have t2 : decide (0 < k) = true := by simp; omega
                have t2' : decide ((0 : Int) < (k : Int)) = true := by simp; omega
                have t6 : decide ((60 : Int) < (pr.size : Int)) = false := by simp at hq ⊢; omega
                clear h0 hq HST HP
                replace hst := Lib.hid hst
                have EF := Lib.hid (show F = (12, (k : Int)) by rw [← hu.out, HS.out, E.out]; rfl)
                clear HS E hat
                go_wp2_with (go_at_call 52; refine (rin_any _ _ _ _).mono ?_; rintro e w' ⟨rfl, rfl⟩)
                go_quiet ((go_at_call 41; exact quiet_eq (Starts_val _ _ _ hst.out hpl d6)))
                go_wp2_with fail
                refine (rfault_any _ _ _).mono ?_
                rintro e w2 ⟨rfl, hb2⟩
                have B2 : Below w.heap.size w w2 := bcall (by first | (go_grown; done) | exact below_drewN (by go_grown) _) hb2 (by have := s1; simp; omega)
                obtain ⟨c0, c1, f0, f1, l1⟩ := ((Box2.alloc (Box2.mk c0 c1 f0 f1 l1) (.cells #[.int .i64 (p : Int), .string pr, .slice ka ks.length kc, .int .i64 nd] 55)).drewN _).below hb2 (by have := l1; simp; omega)
                go_wp2_with fail
                refine bodyPost_ret (v := .agg #[.int .i64 12, .int .i64 (k : Int)]) (by simp [results, Try.results33, go_sem, c0, c1]) rfl ⟨by rw [EF.out], by go_grown⟩
              | true =>
                have h3 : decide (60 < ((rs.getD k Pl.Role.zero).pre.size : Int)) = false := decide_eq_false (by omega)
                have E := Pl.roleC_thr (rs := rs) (i := k) (by rw [Pl.parBad, hp]; simp; omega) (by unfold Pl.preBad; rw [hst]; rw [h3]; simp; omega)
                obtain ⟨ka2, kc2, R2⟩ := hat p (by omega)
                have d5 := R2.c1
                have d6 := R2.pl
                clear R2 hp9
                rw [hpe] at hst
                have HST := Lib.hid hst
                clear hst h3
                have HP := Lib.hid hp
                clear hp
                have HPE := Lib.hid hpe
                generalize hr : rs.getD k Pl.Role.zero = r at *
                obtain ⟨pa, pr, ks, nd⟩ := r
                obtain ⟨d0, d1, d2, d3, hkS, hkl, hpl⟩ := R
                replace hr := Lib.hid hr
                replace E := Lib.hid E
                obtain rfl : pa = (p : Int) := hpe
                clear HPE
                have hst := HST.out
                have hp := HP.out
                simp only [Int.toNat_natCast] at hst
                generalize (rs.getD p Pl.Role.zero).pre = pp at *
                have t0 : (p : Int) < (rs.length : Int) := by have := Pl.inB_true.1 hp; simp at this; omega
                have t8 : (0 : Int) ≤ (p : Int) := by omega
                have t1 : ((k : Int) == 0) = false := by simp; omega
                have t2 : decide (0 < k) = true := by simp; omega
                have t2' : decide ((0 : Int) < (k : Int)) = true := by simp; omega
                have t6 : decide ((60 : Int) < (pr.size : Int)) = false := by simp at hq ⊢; omega
                clear h0 hq HST HP
                replace hst := Lib.hid hst
                clear hat
                go_wp2_with (go_at_call 52; refine (rin_any _ _ _ _).mono ?_; rintro e w' ⟨rfl, rfl⟩)
                go_quiet ((go_at_call 41; exact quiet_eq (Starts_val _ _ _ hst.out hpl d6)))
                go_wp2_with fail
                refine (ThresholdFault_any ks nd ka kc _ (hkS.below (by first | (go_grown; done) | exact below_drewN (by go_grown) _) (Nat.le_refl _)) hkl).mono ?_
                rintro e w2 ⟨rfl, hb2⟩
                have B2 : Below w.heap.size w w2 := bcall (by first | (go_grown; done) | exact below_drewN (by go_grown) _) hb2 (by have := s1; simp; omega)
                have hb3 : Below (w.heap.size + 1) (w.alloc (.cells #[.int .i64 0, .int .i64 0] 24)) w2 := bcall (below_drewN (hb.alloc (by have := l1; omega) _) _) hb2 (by have := l1; simp; omega)
                obtain ⟨c0, c1, f0, f1, l1⟩ := ((Box2.alloc (Box2.mk c0 c1 f0 f1 l1) (.cells #[.int .i64 (p : Int), .string pr, .slice ka ks.length kc, .int .i64 nd] 55)).drewN _).below hb2 (by have := l1; simp; omega)
                have s2 := B2.size
                generalize (Pl.thrF ks nd).1 = C at *
                generalize (Pl.thrF ks nd).2 = D at *
                by_cases hC : C = 0
                · have EF := Lib.hid (show Pl.rolesAt rs (rs.length - (k + 1)) (k + 1) = F by rw [← hu.out, HS.out, if_pos (E.out.trans hC)])
                  subst hC
                  clear HS E
                  go_wp2_with fail
                  go_roundw
                  case rel => exact ⟨k + 1, hlt2, by go_num, EF.out, hb3.alloc (by have := l1; omega) _⟩
                  case measure => simp [intOf]; omega
                · have EF := Lib.hid (show F = (C, (k : Int)) by rw [← hu.out, HS.out, if_neg (by rw [E.out]; exact hC), E.out])
                  have t9 : (C == 0) = false := by simp [hC]
                  have t10 : (C != 0) = true := by simp [hC]
                  clear HS E hC
                  go_wp2_with fail
                  refine (rfault_any _ _ _).mono ?_
                  rintro e w3 ⟨rfl, hb4⟩
                  have B3 : Below w.heap.size w w3 := bcall (by go_grown) hb4 (by simp; omega)
                  obtain ⟨c0, c1, f0, f1, l1⟩ := ((Box2.mk c0 c1 f0 f1 l1).alloc (.cells #[.int .i64 C, .int .i64 D] 24)).below hb4 (by have := l1; simp; omega)
                  go_wp2_with fail
                  refine bodyPost_ret (v := .agg #[.int .i64 C, .int .i64 (k : Int)]) (by simp [results, Try.results33, go_sem, c0, c1]) rfl ⟨by rw [EF.out], by go_grown⟩
          · have hp : Pl.inB (rs.getD k Pl.Role.zero).parent 0 ((k : Int) - 1) = false := by simpa using hp
            have E := Pl.roleC_par (rs := rs) (i := k) (by rw [Pl.parBad, hp]; simp; omega)
            generalize hr : rs.getD k Pl.Role.zero = r at *
            obtain ⟨pa, pr, ks, nd⟩ := r
            obtain ⟨d0, d1, d2, d3, hkS, hkl, hpl⟩ := R
            replace hr := Lib.hid hr
            replace E := Lib.hid E
            have t1 : ((k : Int) == 0) = false := by simp; omega
            have t2 : decide (0 < k) = true := by simp; omega
            have t2' : decide ((0 : Int) < (k : Int)) = true := by simp; omega
            simp only at hp
            clear h0
            have EF := Lib.hid (show F = (3, (k : Int)) by rw [← hu.out, HS.out, E.out]; rfl)
            clear HS E hat
            go_wp2_with (go_at_call 52; refine (rin_any _ _ _ _).mono ?_; rintro e w' ⟨rfl, rfl⟩)
            refine (rfault_any _ _ _).mono ?_
            rintro e w2 ⟨rfl, hb2⟩
            have B2 : Below w.heap.size w w2 := bcall (by first | (go_grown; done) | exact below_drewN (by go_grown) _) hb2 (by have := s1; simp; omega)
            obtain ⟨c0, c1, f0, f1, l1⟩ := ((Box2.alloc (Box2.mk c0 c1 f0 f1 l1) (.cells #[.int .i64 pa, .string pr, .slice ka ks.length kc, .int .i64 nd] 55))).below hb2 (by have := l1; simp; omega)
            go_wp2_with fail
            refine bodyPost_ret (v := .agg #[.int .i64 3, .int .i64 (k : Int)]) (by simp [results, Try.results33, go_sem, c0, c1]) rfl ⟨by rw [EF.out], by go_grown⟩
      · have hk2 : k = rs.length := by omega
        have E := Lib.hid (show F = (0, 0) by rw [← hu.out, hk2, Pl.rolesAt_end])
        have t5 : decide (k < rs.length) = false := by simp; omega
        have t6 : decide ((k : Int) < (rs.length : Int)) = false := by simp; omega
        obtain ⟨c0, c1, f0, f1, l1⟩ := X1
        clear hk2 hlt2
        go_wp2_with fail
        refine bodyPost_ret (v := .agg #[.int .i64 0, .int .i64 0]) (by simp [results, Try.results33, go_sem, c0, c1]) rfl ⟨by rw [E.out], by go_grown⟩
  · have hn : Pl.inB (rs.length : Int) 1 12 = false := by simpa using hn
    have e1 : Pl.rolesF rs = (9, -1) := by rw [Pl.rolesF, hn]; rfl
    rw [e1]
    go_enter Try.func33, Try.ntmps33
    go_wp2_with (go_at_call 52; refine (rin_any _ _ _ _).mono ?_; rintro e w' ⟨rfl, rfl⟩)
    refine (rfault_any _ _ _).mono ?_
    rintro e w1 ⟨rfl, hb⟩
    obtain ⟨c0, c1, f0, f1, l1⟩ := (Box2.new w (.int .i64 0) (.int .i64 0) 24).below hb (by simp)
    have B1 : Below w.heap.size w w1 := bcall (by go_grown) hb (by simp)
    go_wp2_with fail
    refine bodyPost_ret (v := .agg #[.int .i64 9, .int .i64 (-1)]) (by simp [results, Try.results33, go_sem, c0, c1]) rfl ⟨rfl, by go_grown⟩
end Go.Proofs.Ytplcbhcbahiheaa
