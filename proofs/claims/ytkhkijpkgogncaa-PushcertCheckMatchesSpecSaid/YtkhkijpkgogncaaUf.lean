/- Contracts: the fault of a pushed certificate, by the reference. -/
import Derived.Test.YtkhkijpkgogncaaUe
import Derived.Test.YtkhkijpkgogncaaWj
namespace Go.Proofs.Ytkhkijpkgogncaa
open Go.RowKit

set_option maxRecDepth 100000 in
set_option maxHeartbeats 4000000 in
theorem PushFault_any (secret now window : Int) (xs : List Int) (c : Pl.Cert) (oa : Option Addr) (cap : Nat) (w : World) (hs : Sl w oa xs.length cap 1 (intVals xs)) (hm : xs.length ≤ 9223372036854775807) :
    Calls Try.prog 25 #[.int .i64 secret, .int .i64 now, .int .i64 window, .slice oa xs.length cap, .agg (certCells c).toArray] w fun e w' => e = .returned (.agg #[.int .i64 (Pl.pushF secret now window xs c).1, .int .i64 (Pl.pushF secret now window xs c).2]) ∧ Below w.heap.size w w' := by
  obtain ⟨n, t, ky, rf, o, nw, s⟩ := c
  unfold certCells
  simp only
  obtain ⟨F1, hF1⟩ : ∃ F, Pl.pushF secret now window xs ⟨n, t, ky, rf, o, nw, s⟩ = F := ⟨_, rfl⟩
  rw [hF1]
  have EF := Lib.hid hF1
  clear hF1
  obtain ⟨G, hG⟩ : ∃ G, Pl.certF ⟨n, t, ky, rf, o, nw, s⟩ = G := ⟨_, rfl⟩
  have HG := Lib.hid hG
  by_cases hF : (Pl.certF ⟨n, t, ky, rf, o, nw, s⟩).1 = 0
  · have hF2 : G = (0, 0) := by
      rcases Pl.certF_cases ⟨n, t, ky, rf, o, nw, s⟩ with ⟨h, _⟩ | h
      · rw [← hG, h]
      · exact absurd hF h
    subst hF2
    cases hd : Pl.isDigestB s with
    | false =>
      have E := Lib.hid (show F1 = (3, 1) by rw [← EF.out]; simp only [Pl.pushF]; rw [if_pos hF, if_neg (by simp [hd])])
      go_enter Try.func25, Try.ntmps25
      go_wp2_with (first | (go_at_call 29; refine (rIsDigest_any _ _).mono ?_; rintro e w' ⟨rfl, rfl⟩) | (go_at_call 16; refine (rIsKey_any _ _).mono ?_; rintro e w' ⟨rfl, rfl⟩) | (go_at_call 44; refine (rin_any _ _ _ _).mono ?_; rintro e w' ⟨rfl, rfl⟩))
      refine (CertFault_any ⟨n, t, ky, rf, o, nw, s⟩ _).mono ?_
      rw [HG.out]
      rintro e w1 ⟨rfl, hb1⟩
      have B1 : Below w.heap.size w w1 := bcall (by go_grown) hb1 (by go_size)
      have s1 := B1.size
      have q1 : w.heap.size + 2 ≤ w1.heap.size := by have h := hb1.size; first | omega | (simp at h; omega)
      have bah := (Box2.new (w.alloc (.cells #[.int .i64 n, .int .i64 t, .int .i64 ky, .string rf, .int .i64 o, .int .i64 nw, .int .i64 s] 23)) (.int .i64 0) (.int .i64 0) 26).below hb1 (by go_size)
      simp only [World.size_alloc] at bah
      obtain ⟨ba0, ba1, baf, bag, bal⟩ := bah
      have AB := ((Blk.new w [.int .i64 n, .int .i64 t, .int .i64 ky, .string rf, .int .i64 o, .int .i64 nw, .int .i64 s] 23 (g := w.heap.size) (by go_size)).alloc (.cells #[(.int .i64 0), (.int .i64 0)] 26)).below hb1 (by go_size)
      have A0 := AB.c 0 _ rfl
      have A1 := AB.c 1 _ rfl
      have A2 := AB.c 2 _ rfl
      have A3 := AB.c 3 _ rfl
      have A4 := AB.c 4 _ rfl
      have A5 := AB.c 5 _ rfl
      have A6 := AB.c 6 _ rfl
      have Af0 := AB.f 0 (Nat.le_of_ble_eq_true rfl)
      have Af1 := AB.f 1 (Nat.le_of_ble_eq_true rfl)
      have Af2 := AB.f 2 (Nat.le_of_ble_eq_true rfl)
      have Af3 := AB.f 3 (Nat.le_of_ble_eq_true rfl)
      have Af4 := AB.f 4 (Nat.le_of_ble_eq_true rfl)
      have Af5 := AB.f 5 (Nat.le_of_ble_eq_true rfl)
      have Af6 := AB.f 6 (Nat.le_of_ble_eq_true rfl)
      have Al := AB.lt
      replace hs := (hs.below (by go_grown) (Nat.le_refl _)).below hb1 (Nat.le_refl _)
      clear hb1
      go_wp2_with (first | (go_at_call 29; refine (rIsDigest_any _ _).mono ?_; rintro e w' ⟨rfl, rfl⟩) | (go_at_call 16; refine (rIsKey_any _ _).mono ?_; rintro e w' ⟨rfl, rfl⟩) | (go_at_call 44; refine (rin_any _ _ _ _).mono ?_; rintro e w' ⟨rfl, rfl⟩))
      refine (rfault_any _ _ _).mono ?_
      rintro e w2 ⟨rfl, hb2⟩
      have B2 : Below w.heap.size w w2 := bcall (by go_grown) hb2 (by go_size)
      have s2 := B2.size
      have q2 : w1.heap.size + 1 ≤ w2.heap.size := by have h := hb2.size; first | omega | (simp at h; omega)
      obtain ⟨ba0, ba1, baf, bag, bal⟩ := ((Box2.mk ba0 ba1 baf bag bal).alloc (.cells #[(.int .i64 0), (.int .i64 0)] 26)).below hb2 (by go_size)
      obtain ⟨bb0, bb1, bbf, bbg, bbl⟩ := (Box2.new w1 (.int .i64 0) (.int .i64 0) 26).below hb2 (by go_size)
      clear A0 A1 A2 A3 A4 A5 A6 Af0 Af1 Af2 Af3 Af4 Af5 Af6 Al
      replace AB := (AB.alloc (.cells #[(.int .i64 0), (.int .i64 0)] 26)).below hb2 (by have h := AB.lt; go_size)
      have A0 := AB.c 0 _ rfl
      have A1 := AB.c 1 _ rfl
      have A2 := AB.c 2 _ rfl
      have A3 := AB.c 3 _ rfl
      have A4 := AB.c 4 _ rfl
      have A5 := AB.c 5 _ rfl
      have A6 := AB.c 6 _ rfl
      have Af0 := AB.f 0 (Nat.le_of_ble_eq_true rfl)
      have Af1 := AB.f 1 (Nat.le_of_ble_eq_true rfl)
      have Af2 := AB.f 2 (Nat.le_of_ble_eq_true rfl)
      have Af3 := AB.f 3 (Nat.le_of_ble_eq_true rfl)
      have Af4 := AB.f 4 (Nat.le_of_ble_eq_true rfl)
      have Af5 := AB.f 5 (Nat.le_of_ble_eq_true rfl)
      have Af6 := AB.f 6 (Nat.le_of_ble_eq_true rfl)
      have Al := AB.lt
      replace hs := (hs.below (by go_grown) (Nat.le_refl _)).below hb2 (Nat.le_refl _)
      clear hb2
      go_wp2_with fail
      refine bodyPost_ret (v := .agg #[.int .i64 (3), .int .i64 (1)]) (by simp [results, Try.results25, go_sem, ba0, ba1]) rfl ⟨by rw [E.out], by go_grown <;> exact B2⟩
    | true =>
      cases hk : Pl.isKeyB secret with
      | false =>
        have E := Lib.hid (show F1 = (3, -1) by rw [← EF.out]; simp only [Pl.pushF]; rw [if_pos hF, if_pos hd, if_neg (by simp [hk])])
        go_enter Try.func25, Try.ntmps25
        go_wp2_with (first | (go_at_call 29; refine (rIsDigest_any _ _).mono ?_; rintro e w' ⟨rfl, rfl⟩) | (go_at_call 16; refine (rIsKey_any _ _).mono ?_; rintro e w' ⟨rfl, rfl⟩) | (go_at_call 44; refine (rin_any _ _ _ _).mono ?_; rintro e w' ⟨rfl, rfl⟩))
        refine (CertFault_any ⟨n, t, ky, rf, o, nw, s⟩ _).mono ?_
        rw [HG.out]
        rintro e w1 ⟨rfl, hb1⟩
        have B1 : Below w.heap.size w w1 := bcall (by go_grown) hb1 (by go_size)
        have s1 := B1.size
        have q1 : w.heap.size + 2 ≤ w1.heap.size := by have h := hb1.size; first | omega | (simp at h; omega)
        have bah := (Box2.new (w.alloc (.cells #[.int .i64 n, .int .i64 t, .int .i64 ky, .string rf, .int .i64 o, .int .i64 nw, .int .i64 s] 23)) (.int .i64 0) (.int .i64 0) 26).below hb1 (by go_size)
        simp only [World.size_alloc] at bah
        obtain ⟨ba0, ba1, baf, bag, bal⟩ := bah
        have AB := ((Blk.new w [.int .i64 n, .int .i64 t, .int .i64 ky, .string rf, .int .i64 o, .int .i64 nw, .int .i64 s] 23 (g := w.heap.size) (by go_size)).alloc (.cells #[(.int .i64 0), (.int .i64 0)] 26)).below hb1 (by go_size)
        have A0 := AB.c 0 _ rfl
        have A1 := AB.c 1 _ rfl
        have A2 := AB.c 2 _ rfl
        have A3 := AB.c 3 _ rfl
        have A4 := AB.c 4 _ rfl
        have A5 := AB.c 5 _ rfl
        have A6 := AB.c 6 _ rfl
        have Af0 := AB.f 0 (Nat.le_of_ble_eq_true rfl)
        have Af1 := AB.f 1 (Nat.le_of_ble_eq_true rfl)
        have Af2 := AB.f 2 (Nat.le_of_ble_eq_true rfl)
        have Af3 := AB.f 3 (Nat.le_of_ble_eq_true rfl)
        have Af4 := AB.f 4 (Nat.le_of_ble_eq_true rfl)
        have Af5 := AB.f 5 (Nat.le_of_ble_eq_true rfl)
        have Af6 := AB.f 6 (Nat.le_of_ble_eq_true rfl)
        have Al := AB.lt
        replace hs := (hs.below (by go_grown) (Nat.le_refl _)).below hb1 (Nat.le_refl _)
        clear hb1
        go_wp2_with (first | (go_at_call 29; refine (rIsDigest_any _ _).mono ?_; rintro e w' ⟨rfl, rfl⟩) | (go_at_call 16; refine (rIsKey_any _ _).mono ?_; rintro e w' ⟨rfl, rfl⟩) | (go_at_call 44; refine (rin_any _ _ _ _).mono ?_; rintro e w' ⟨rfl, rfl⟩))
        refine (rfault_any _ _ _).mono ?_
        rintro e w2 ⟨rfl, hb2⟩
        have B2 : Below w.heap.size w w2 := bcall (by go_grown) hb2 (by go_size)
        have s2 := B2.size
        have q2 : w1.heap.size + 1 ≤ w2.heap.size := by have h := hb2.size; first | omega | (simp at h; omega)
        obtain ⟨ba0, ba1, baf, bag, bal⟩ := ((Box2.mk ba0 ba1 baf bag bal).alloc (.cells #[(.int .i64 0), (.int .i64 0)] 26)).below hb2 (by go_size)
        obtain ⟨bb0, bb1, bbf, bbg, bbl⟩ := (Box2.new w1 (.int .i64 0) (.int .i64 0) 26).below hb2 (by go_size)
        clear A0 A1 A2 A3 A4 A5 A6 Af0 Af1 Af2 Af3 Af4 Af5 Af6 Al
        replace AB := (AB.alloc (.cells #[(.int .i64 0), (.int .i64 0)] 26)).below hb2 (by have h := AB.lt; go_size)
        have A0 := AB.c 0 _ rfl
        have A1 := AB.c 1 _ rfl
        have A2 := AB.c 2 _ rfl
        have A3 := AB.c 3 _ rfl
        have A4 := AB.c 4 _ rfl
        have A5 := AB.c 5 _ rfl
        have A6 := AB.c 6 _ rfl
        have Af0 := AB.f 0 (Nat.le_of_ble_eq_true rfl)
        have Af1 := AB.f 1 (Nat.le_of_ble_eq_true rfl)
        have Af2 := AB.f 2 (Nat.le_of_ble_eq_true rfl)
        have Af3 := AB.f 3 (Nat.le_of_ble_eq_true rfl)
        have Af4 := AB.f 4 (Nat.le_of_ble_eq_true rfl)
        have Af5 := AB.f 5 (Nat.le_of_ble_eq_true rfl)
        have Af6 := AB.f 6 (Nat.le_of_ble_eq_true rfl)
        have Al := AB.lt
        replace hs := (hs.below (by go_grown) (Nat.le_refl _)).below hb2 (Nat.le_refl _)
        clear hb2
        go_wp2_with fail
        refine bodyPost_ret (v := .agg #[.int .i64 (3), .int .i64 (-1)]) (by simp [results, Try.results25, go_sem, ba0, ba1]) rfl ⟨by rw [E.out], by go_grown <;> exact B2⟩
      | true =>
        cases h1 : Pl.isTimeB now with
        | false =>
          have E := Lib.hid (show F1 = (3, -2) by rw [← EF.out]; simp only [Pl.pushF]; rw [if_pos hF, if_pos hd, if_pos hk, if_neg (by simp [h1])])
          replace h1 : Pl.inB now 0 100000 = false := h1
          go_enter Try.func25, Try.ntmps25
          go_wp2_with (first | (go_at_call 29; refine (rIsDigest_any _ _).mono ?_; rintro e w' ⟨rfl, rfl⟩) | (go_at_call 16; refine (rIsKey_any _ _).mono ?_; rintro e w' ⟨rfl, rfl⟩) | (go_at_call 44; refine (rin_any _ _ _ _).mono ?_; rintro e w' ⟨rfl, rfl⟩))
          refine (CertFault_any ⟨n, t, ky, rf, o, nw, s⟩ _).mono ?_
          rw [HG.out]
          rintro e w1 ⟨rfl, hb1⟩
          have B1 : Below w.heap.size w w1 := bcall (by go_grown) hb1 (by go_size)
          have s1 := B1.size
          have q1 : w.heap.size + 2 ≤ w1.heap.size := by have h := hb1.size; first | omega | (simp at h; omega)
          have bah := (Box2.new (w.alloc (.cells #[.int .i64 n, .int .i64 t, .int .i64 ky, .string rf, .int .i64 o, .int .i64 nw, .int .i64 s] 23)) (.int .i64 0) (.int .i64 0) 26).below hb1 (by go_size)
          simp only [World.size_alloc] at bah
          obtain ⟨ba0, ba1, baf, bag, bal⟩ := bah
          have AB := ((Blk.new w [.int .i64 n, .int .i64 t, .int .i64 ky, .string rf, .int .i64 o, .int .i64 nw, .int .i64 s] 23 (g := w.heap.size) (by go_size)).alloc (.cells #[(.int .i64 0), (.int .i64 0)] 26)).below hb1 (by go_size)
          have A0 := AB.c 0 _ rfl
          have A1 := AB.c 1 _ rfl
          have A2 := AB.c 2 _ rfl
          have A3 := AB.c 3 _ rfl
          have A4 := AB.c 4 _ rfl
          have A5 := AB.c 5 _ rfl
          have A6 := AB.c 6 _ rfl
          have Af0 := AB.f 0 (Nat.le_of_ble_eq_true rfl)
          have Af1 := AB.f 1 (Nat.le_of_ble_eq_true rfl)
          have Af2 := AB.f 2 (Nat.le_of_ble_eq_true rfl)
          have Af3 := AB.f 3 (Nat.le_of_ble_eq_true rfl)
          have Af4 := AB.f 4 (Nat.le_of_ble_eq_true rfl)
          have Af5 := AB.f 5 (Nat.le_of_ble_eq_true rfl)
          have Af6 := AB.f 6 (Nat.le_of_ble_eq_true rfl)
          have Al := AB.lt
          replace hs := (hs.below (by go_grown) (Nat.le_refl _)).below hb1 (Nat.le_refl _)
          clear hb1
          go_wp2_with (first | (go_at_call 29; refine (rIsDigest_any _ _).mono ?_; rintro e w' ⟨rfl, rfl⟩) | (go_at_call 16; refine (rIsKey_any _ _).mono ?_; rintro e w' ⟨rfl, rfl⟩) | (go_at_call 44; refine (rin_any _ _ _ _).mono ?_; rintro e w' ⟨rfl, rfl⟩))
          refine (rfault_any _ _ _).mono ?_
          rintro e w2 ⟨rfl, hb2⟩
          have B2 : Below w.heap.size w w2 := bcall (by go_grown) hb2 (by go_size)
          have s2 := B2.size
          have q2 : w1.heap.size + 1 ≤ w2.heap.size := by have h := hb2.size; first | omega | (simp at h; omega)
          obtain ⟨ba0, ba1, baf, bag, bal⟩ := ((Box2.mk ba0 ba1 baf bag bal).alloc (.cells #[(.int .i64 0), (.int .i64 0)] 26)).below hb2 (by go_size)
          obtain ⟨bb0, bb1, bbf, bbg, bbl⟩ := (Box2.new w1 (.int .i64 0) (.int .i64 0) 26).below hb2 (by go_size)
          clear A0 A1 A2 A3 A4 A5 A6 Af0 Af1 Af2 Af3 Af4 Af5 Af6 Al
          replace AB := (AB.alloc (.cells #[(.int .i64 0), (.int .i64 0)] 26)).below hb2 (by have h := AB.lt; go_size)
          have A0 := AB.c 0 _ rfl
          have A1 := AB.c 1 _ rfl
          have A2 := AB.c 2 _ rfl
          have A3 := AB.c 3 _ rfl
          have A4 := AB.c 4 _ rfl
          have A5 := AB.c 5 _ rfl
          have A6 := AB.c 6 _ rfl
          have Af0 := AB.f 0 (Nat.le_of_ble_eq_true rfl)
          have Af1 := AB.f 1 (Nat.le_of_ble_eq_true rfl)
          have Af2 := AB.f 2 (Nat.le_of_ble_eq_true rfl)
          have Af3 := AB.f 3 (Nat.le_of_ble_eq_true rfl)
          have Af4 := AB.f 4 (Nat.le_of_ble_eq_true rfl)
          have Af5 := AB.f 5 (Nat.le_of_ble_eq_true rfl)
          have Af6 := AB.f 6 (Nat.le_of_ble_eq_true rfl)
          have Al := AB.lt
          replace hs := (hs.below (by go_grown) (Nat.le_refl _)).below hb2 (Nat.le_refl _)
          clear hb2
          go_wp2_with fail
          refine bodyPost_ret (v := .agg #[.int .i64 (3), .int .i64 (-2)]) (by simp [results, Try.results25, go_sem, ba0, ba1]) rfl ⟨by rw [E.out], by go_grown <;> exact B2⟩
        | true =>
          have h1i : Pl.inB now 0 100000 = true := h1
          cases h2 : Pl.isTimeB window with
          | false =>
            have E := Lib.hid (show F1 = (3, -2) by rw [← EF.out]; simp only [Pl.pushF]; rw [if_pos hF, if_pos hd, if_pos hk, if_neg (by simp [h2])])
            replace h2 : Pl.inB window 0 100000 = false := h2
            go_enter Try.func25, Try.ntmps25
            go_wp2_with (first | (go_at_call 29; refine (rIsDigest_any _ _).mono ?_; rintro e w' ⟨rfl, rfl⟩) | (go_at_call 16; refine (rIsKey_any _ _).mono ?_; rintro e w' ⟨rfl, rfl⟩) | (go_at_call 44; refine (rin_any _ _ _ _).mono ?_; rintro e w' ⟨rfl, rfl⟩))
            refine (CertFault_any ⟨n, t, ky, rf, o, nw, s⟩ _).mono ?_
            rw [HG.out]
            rintro e w1 ⟨rfl, hb1⟩
            have B1 : Below w.heap.size w w1 := bcall (by go_grown) hb1 (by go_size)
            have s1 := B1.size
            have q1 : w.heap.size + 2 ≤ w1.heap.size := by have h := hb1.size; first | omega | (simp at h; omega)
            have bah := (Box2.new (w.alloc (.cells #[.int .i64 n, .int .i64 t, .int .i64 ky, .string rf, .int .i64 o, .int .i64 nw, .int .i64 s] 23)) (.int .i64 0) (.int .i64 0) 26).below hb1 (by go_size)
            simp only [World.size_alloc] at bah
            obtain ⟨ba0, ba1, baf, bag, bal⟩ := bah
            have AB := ((Blk.new w [.int .i64 n, .int .i64 t, .int .i64 ky, .string rf, .int .i64 o, .int .i64 nw, .int .i64 s] 23 (g := w.heap.size) (by go_size)).alloc (.cells #[(.int .i64 0), (.int .i64 0)] 26)).below hb1 (by go_size)
            have A0 := AB.c 0 _ rfl
            have A1 := AB.c 1 _ rfl
            have A2 := AB.c 2 _ rfl
            have A3 := AB.c 3 _ rfl
            have A4 := AB.c 4 _ rfl
            have A5 := AB.c 5 _ rfl
            have A6 := AB.c 6 _ rfl
            have Af0 := AB.f 0 (Nat.le_of_ble_eq_true rfl)
            have Af1 := AB.f 1 (Nat.le_of_ble_eq_true rfl)
            have Af2 := AB.f 2 (Nat.le_of_ble_eq_true rfl)
            have Af3 := AB.f 3 (Nat.le_of_ble_eq_true rfl)
            have Af4 := AB.f 4 (Nat.le_of_ble_eq_true rfl)
            have Af5 := AB.f 5 (Nat.le_of_ble_eq_true rfl)
            have Af6 := AB.f 6 (Nat.le_of_ble_eq_true rfl)
            have Al := AB.lt
            replace hs := (hs.below (by go_grown) (Nat.le_refl _)).below hb1 (Nat.le_refl _)
            clear hb1
            go_wp2_with (first | (go_at_call 29; refine (rIsDigest_any _ _).mono ?_; rintro e w' ⟨rfl, rfl⟩) | (go_at_call 16; refine (rIsKey_any _ _).mono ?_; rintro e w' ⟨rfl, rfl⟩) | (go_at_call 44; refine (rin_any _ _ _ _).mono ?_; rintro e w' ⟨rfl, rfl⟩))
            refine (rfault_any _ _ _).mono ?_
            rintro e w2 ⟨rfl, hb2⟩
            have B2 : Below w.heap.size w w2 := bcall (by go_grown) hb2 (by go_size)
            have s2 := B2.size
            have q2 : w1.heap.size + 1 ≤ w2.heap.size := by have h := hb2.size; first | omega | (simp at h; omega)
            obtain ⟨ba0, ba1, baf, bag, bal⟩ := ((Box2.mk ba0 ba1 baf bag bal).alloc (.cells #[(.int .i64 0), (.int .i64 0)] 26)).below hb2 (by go_size)
            obtain ⟨bb0, bb1, bbf, bbg, bbl⟩ := (Box2.new w1 (.int .i64 0) (.int .i64 0) 26).below hb2 (by go_size)
            clear A0 A1 A2 A3 A4 A5 A6 Af0 Af1 Af2 Af3 Af4 Af5 Af6 Al
            replace AB := (AB.alloc (.cells #[(.int .i64 0), (.int .i64 0)] 26)).below hb2 (by have h := AB.lt; go_size)
            have A0 := AB.c 0 _ rfl
            have A1 := AB.c 1 _ rfl
            have A2 := AB.c 2 _ rfl
            have A3 := AB.c 3 _ rfl
            have A4 := AB.c 4 _ rfl
            have A5 := AB.c 5 _ rfl
            have A6 := AB.c 6 _ rfl
            have Af0 := AB.f 0 (Nat.le_of_ble_eq_true rfl)
            have Af1 := AB.f 1 (Nat.le_of_ble_eq_true rfl)
            have Af2 := AB.f 2 (Nat.le_of_ble_eq_true rfl)
            have Af3 := AB.f 3 (Nat.le_of_ble_eq_true rfl)
            have Af4 := AB.f 4 (Nat.le_of_ble_eq_true rfl)
            have Af5 := AB.f 5 (Nat.le_of_ble_eq_true rfl)
            have Af6 := AB.f 6 (Nat.le_of_ble_eq_true rfl)
            have Al := AB.lt
            replace hs := (hs.below (by go_grown) (Nat.le_refl _)).below hb2 (Nat.le_refl _)
            clear hb2
            go_wp2_with fail
            refine bodyPost_ret (v := .agg #[.int .i64 (3), .int .i64 (-2)]) (by simp [results, Try.results25, go_sem, ba0, ba1]) rfl ⟨by rw [E.out], by go_grown <;> exact B2⟩
          | true =>
            have h2i : Pl.inB window 0 100000 = true := h2
            by_cases hn40 : xs.length ≤ 40
            · have e1 : Pl.usedC xs = Pl.usedAt xs xs.length 0 := by simp [Pl.usedC, hn40]
              have e40 : decide ((40 : Int) < (xs.length : Int)) = false := by simp; omega
              have HL := Lib.hid (show ∀ v : Int, v ≠ 0 → Pl.usedC xs = v → F1 = (v, -3) from fun v hv hu => by rw [← EF.out]; simp only [Pl.pushF]; rw [if_pos hF, if_pos hd, if_pos hk, if_pos (by rw [h1, h2]; rfl), hu, if_neg hv])
              have HZ := Lib.hid (show Pl.usedC xs = 0 → F1 = (if (decide (now < t) || decide (t < now - window)) = true then (16, 0) else if n ≠ Pl.nonceS secret t then (18, 1) else if s ≠ Pl.certS ⟨n, t, ky, rf, o, nw, s⟩ then (18, 2) else if xs.contains n = true then (7, 0) else if xs.length = 40 then (14, 0) else (0, 0)) from fun hu => by rw [← EF.out]; simp only [Pl.pushF]; rw [if_pos hF, if_pos hd, if_pos hk, if_pos (by rw [h1, h2]; rfl), if_pos hu])
              rw [e1] at HL HZ
              generalize hU : Pl.usedAt xs xs.length 0 = U at HL HZ
              have HU := Lib.hid hU
              clear hU e1
              have hB : Pl.certB ⟨n, t, ky, rf, o, nw, s⟩ = true ∧ rf.size ≤ 60 := by
                rcases Pl.certF_cases ⟨n, t, ky, rf, o, nw, s⟩ with ⟨_, h, _, h3⟩ | h
                · exact ⟨h, h3⟩
                · exact absurd hF h
              have ht := (Pl.certB_true hB.1).2.1
              simp only at ht
              have ht' := Pl.isTimeB_true.1 ht
              have h1' := Pl.isTimeB_true.1 h1
              have h2' := Pl.isTimeB_true.1 h2
              have HB := Lib.hid hB.1
              have h60 := hB.2
              have ew : IntKind.i64.wrap (now - window) = now - window := IntWalk.i64_in _ (by omega)
              obtain ⟨NS, hNS⟩ : ∃ x, Pl.nonceS secret t = x := ⟨_, rfl⟩
              obtain ⟨SG, hSG⟩ : ∃ x, Pl.certS ⟨n, t, ky, rf, o, nw, s⟩ = x := ⟨_, rfl⟩
              rw [hNS, hSG] at HZ
              have HNS := Lib.hid hNS
              have HSG := Lib.hid hSG
              clear hNS hSG hB EF hG hF
              go_enter Try.func25, Try.ntmps25
              go_wp2_with (first | (go_at_call 29; refine (rIsDigest_any _ _).mono ?_; rintro e w' ⟨rfl, rfl⟩) | (go_at_call 16; refine (rIsKey_any _ _).mono ?_; rintro e w' ⟨rfl, rfl⟩) | (go_at_call 44; refine (rin_any _ _ _ _).mono ?_; rintro e w' ⟨rfl, rfl⟩))
              refine (CertFault_any ⟨n, t, ky, rf, o, nw, s⟩ _).mono ?_
              rw [HG.out]
              rintro e w1 ⟨rfl, hb1⟩
              have B1 : Below w.heap.size w w1 := bcall (by go_grown) hb1 (by go_size)
              have s1 := B1.size
              have q1 : w.heap.size + 2 ≤ w1.heap.size := by have h := hb1.size; first | omega | (simp at h; omega)
              have bah := (Box2.new (w.alloc (.cells #[.int .i64 n, .int .i64 t, .int .i64 ky, .string rf, .int .i64 o, .int .i64 nw, .int .i64 s] 23)) (.int .i64 0) (.int .i64 0) 26).below hb1 (by go_size)
              simp only [World.size_alloc] at bah
              obtain ⟨ba0, ba1, baf, bag, bal⟩ := bah
              have AB := ((Blk.new w [.int .i64 n, .int .i64 t, .int .i64 ky, .string rf, .int .i64 o, .int .i64 nw, .int .i64 s] 23 (g := w.heap.size) (by go_size)).alloc (.cells #[(.int .i64 0), (.int .i64 0)] 26)).below hb1 (by go_size)
              have A0 := AB.c 0 _ rfl
              have A1 := AB.c 1 _ rfl
              have A2 := AB.c 2 _ rfl
              have A3 := AB.c 3 _ rfl
              have A4 := AB.c 4 _ rfl
              have A5 := AB.c 5 _ rfl
              have A6 := AB.c 6 _ rfl
              have Af0 := AB.f 0 (Nat.le_of_ble_eq_true rfl)
              have Af1 := AB.f 1 (Nat.le_of_ble_eq_true rfl)
              have Af2 := AB.f 2 (Nat.le_of_ble_eq_true rfl)
              have Af3 := AB.f 3 (Nat.le_of_ble_eq_true rfl)
              have Af4 := AB.f 4 (Nat.le_of_ble_eq_true rfl)
              have Af5 := AB.f 5 (Nat.le_of_ble_eq_true rfl)
              have Af6 := AB.f 6 (Nat.le_of_ble_eq_true rfl)
              have Al := AB.lt
              replace hs := (hs.below (by go_grown) (Nat.le_refl _)).below hb1 (Nat.le_refl _)
              clear hb1
              go_wp2_with (first | (go_at_call 29; refine (rIsDigest_any _ _).mono ?_; rintro e w' ⟨rfl, rfl⟩) | (go_at_call 16; refine (rIsKey_any _ _).mono ?_; rintro e w' ⟨rfl, rfl⟩) | (go_at_call 44; refine (rin_any _ _ _ _).mono ?_; rintro e w' ⟨rfl, rfl⟩))
              go_loopw [12] (fun i wr => ∃ k : Nat, k ≤ xs.length ∧ i = .int .i64 (k : Int) ∧ Hid (Pl.usedAt xs (xs.length - k) k = U) ∧ Below w1.heap.size w1 wr) (fun i _ => xs.length - (intOf i).toNat)
              case atStart => exact ⟨0, Nat.zero_le _, rfl, Lib.hid HU.out, (Below.refl _ _).alloc (Nat.le_refl _) _⟩
              case round =>
                obtain ⟨k, hkl, rfl, hu, hbw⟩ := hrel
                have B0 : Below w.heap.size w wr := bcall B1 hbw s1
                have s0 := B0.size
                clear A0 A1 A2 A3 A4 A5 A6 Af0 Af1 Af2 Af3 Af4 Af5 Af6 Al
                replace AB := AB.below hbw AB.lt
                obtain ⟨ba0, ba1, baf, bag, bal⟩ := (Box2.mk ba0 ba1 baf bag bal).below hbw bal
                replace hs := hs.below hbw (Nat.le_refl _)
                by_cases hlt2 : k < xs.length
                · rcases hs.mem with h0 | ⟨b, off, rfl, hlt, hc⟩
                  · have h0 : xs = [] := by simpa [intVals] using h0
                    rw [h0] at hlt2
                    simp at hlt2
                  have hcell : wr.cell? ⟨b, off + k, none⟩ = some (.int .i64 xs[k]) := hc k _ (intVals_get xs k hlt2)
                  have HS := Lib.hid (Pl.usedAt_step xs k hlt2)
                  cases hdd : Pl.isDigestB xs[k] with
                  | false =>
                    have E := Lib.hid (HL.out 5 (by decide) (by rw [← hu.out, HS.out, hdd]; rfl))
                    clear hc
                    go_wp2_with fail
                    refine wp_region_ord [0, 1, 2, 3, 4, 5, 6, 7, 8, 9, 10, 11, 12, 13, 14, 15, 16, 17, 18, 19, 20, 21] (by kernel_rfl) (by kernel_rfl) ?_
                    repeat (refine wpI_rd rfl rfl ?_; go_big_quiet_step (fail); refine wpQuiet_nil ?_)
                    refine wpI_call (f := 29) (args := #[.int .i64 xs[k]]) rfl rfl rfl (by simp [go_sem]) ?_
                    refine (rIsDigest_any _ _).mono ?_
                    rintro e w' ⟨rfl, rfl⟩
                    refine ⟨_, rfl, Below.refl _ _, ?_⟩
                    try simp only [Act.put, List.setIfInBounds_toArray, List.set_cons_zero, List.set_cons_succ]
                    repeat (refine wpI_rd rfl rfl ?_; go_big_quiet_step (fail); refine wpQuiet_nil ?_)
                    refine wpI_nil ?_
                    try simp only [Act.put, List.setIfInBounds_toArray, List.set_cons_zero, List.set_cons_succ]
                    go_wp2_with fail
                    refine (rfault_any _ _ _).mono ?_
                    rintro e w2 ⟨rfl, hb2⟩
                    have B2 : Below w.heap.size w w2 := bcall (by go_grown) hb2 (by go_size)
                    have s2 := B2.size
                    have q2 : wr.heap.size ≤ w2.heap.size := by have h := hb2.size; first | omega | (simp at h; omega)
                    obtain ⟨ba0, ba1, baf, bag, bal⟩ := (Box2.mk ba0 ba1 baf bag bal).drew.below hb2 (by go_size)
                    clear hb2
                    go_wp2_with fail
                    refine bodyPost_ret (v := .agg #[.int .i64 (5), .int .i64 (-3)]) (by simp [results, Try.results25, go_sem, ba0, ba1]) rfl ⟨by rw [E.out], by go_grown <;> exact B2⟩
                  | true =>
                    by_cases h0 : 0 < k
                    · have hlt3 : k - 1 < xs.length := by omega
                      have hcell2 : wr.cell? ⟨b, off + (k - 1), none⟩ = some (.int .i64 xs[k - 1]) := hc (k - 1) _ (intVals_get xs (k - 1) hlt3)
                      have HGt := Lib.hid (show xs.getD (k - 1) 0 = xs[k - 1] by rw [List.getD_eq_getElem?_getD, List.getElem?_eq_getElem hlt3]; rfl)
                      have ei : ((k : Int) - 1).toNat = k - 1 := by omega
                      have e2 : IntKind.i64.wrap ((k : Int) - 1) = (k : Int) - 1 := IntWalk.i64_in _ (by omega)
                      have e3 : (0 : Int) ≤ (k : Int) - 1 := by omega
                      have e3' : (1 : Int) ≤ (k : Int) := by omega
                      have e4 : (k : Int) - 1 < (xs.length : Int) := by omega
                      have e6 : decide (0 < k) = true := by simp; omega
                      have e7 : decide ((0 : Int) < (k : Int)) = true := by simp; omega
                      clear hc
                      by_cases hle : xs[k] ≤ xs[k - 1]
                      · have E := Lib.hid (HL.out 5 (by decide) (by rw [← hu.out, HS.out, if_pos hdd, HGt.out, if_pos ⟨h0, hle⟩]))
                        have t1 : decide (xs[k] ≤ xs[k - 1]) = true := by simp [hle]
                        clear hle
                        go_wp2_with fail
                        refine wp_region_ord [0, 1, 2, 3, 4, 5, 6, 7, 8, 9, 10, 11, 12, 13, 14, 15, 16, 17, 18, 19, 20, 21] (by kernel_rfl) (by kernel_rfl) ?_
                        repeat (refine wpI_rd rfl rfl ?_; go_big_quiet_step (fail); refine wpQuiet_nil ?_)
                        refine wpI_call (f := 29) (args := #[.int .i64 xs[k]]) rfl rfl rfl (by simp [go_sem]) ?_
                        refine (rIsDigest_any _ _).mono ?_
                        rintro e w' ⟨rfl, rfl⟩
                        refine ⟨_, rfl, Below.refl _ _, ?_⟩
                        try simp only [Act.put, List.setIfInBounds_toArray, List.set_cons_zero, List.set_cons_succ]
                        repeat (refine wpI_rd rfl rfl ?_; go_big_quiet_step (fail); refine wpQuiet_nil ?_)
                        refine wpI_nil ?_
                        try simp only [Act.put, List.setIfInBounds_toArray, List.set_cons_zero, List.set_cons_succ]
                        go_wp2_with fail
                        refine (rfault_any _ _ _).mono ?_
                        rintro e w2 ⟨rfl, hb2⟩
                        have B2 : Below w.heap.size w w2 := bcall (by go_grown) hb2 (by go_size)
                        have s2 := B2.size
                        have q2 : wr.heap.size ≤ w2.heap.size := by have h := hb2.size; first | omega | (simp at h; omega)
                        obtain ⟨ba0, ba1, baf, bag, bal⟩ := (Box2.mk ba0 ba1 baf bag bal).drew.below hb2 (by go_size)
                        clear hb2
                        go_wp2_with fail
                        refine bodyPost_ret (v := .agg #[.int .i64 (5), .int .i64 (-3)]) (by simp [results, Try.results25, go_sem, ba0, ba1]) rfl ⟨by rw [E.out], by go_grown <;> exact B2⟩
                      · have E := Lib.hid (show Pl.usedAt xs (xs.length - (k + 1)) (k + 1) = U by rw [← hu.out, HS.out, if_pos hdd, HGt.out, if_neg (fun h => hle h.2)])
                        have t1 : decide (xs[k] ≤ xs[k - 1]) = false := by simp; omega
                        clear hle
                        go_wp2_with fail
                        refine wp_region_ord [0, 1, 2, 3, 4, 5, 6, 7, 8, 9, 10, 11, 12, 13, 14, 15, 16, 17, 18, 19, 20, 21] (by kernel_rfl) (by kernel_rfl) ?_
                        repeat (refine wpI_rd rfl rfl ?_; go_big_quiet_step (fail); refine wpQuiet_nil ?_)
                        refine wpI_call (f := 29) (args := #[.int .i64 xs[k]]) rfl rfl rfl (by simp [go_sem]) ?_
                        refine (rIsDigest_any _ _).mono ?_
                        rintro e w' ⟨rfl, rfl⟩
                        refine ⟨_, rfl, Below.refl _ _, ?_⟩
                        try simp only [Act.put, List.setIfInBounds_toArray, List.set_cons_zero, List.set_cons_succ]
                        repeat (refine wpI_rd rfl rfl ?_; go_big_quiet_step (fail); refine wpQuiet_nil ?_)
                        refine wpI_nil ?_
                        try simp only [Act.put, List.setIfInBounds_toArray, List.set_cons_zero, List.set_cons_succ]
                        go_wp2_with fail
                        go_roundw
                        case rel => exact ⟨k + 1, hlt2, by go_num, E, hbw.drew⟩
                        case measure => simp [intOf]; omega
                    · have E := Lib.hid (show Pl.usedAt xs (xs.length - (k + 1)) (k + 1) = U by rw [← hu.out, HS.out, if_pos hdd, if_neg (fun h => h0 h.1)])
                      have e6 : decide (0 < k) = false := by simp; omega
                      have e7 : decide ((0 : Int) < (k : Int)) = false := by simp; omega
                      clear hc
                      go_wp2_with fail
                      refine wp_region_ord [0, 1, 2, 3, 4, 5, 6, 7, 8, 9, 10, 11, 12, 13, 14, 15, 16, 17, 18, 19, 20, 21] (by kernel_rfl) (by kernel_rfl) ?_
                      repeat (refine wpI_rd rfl rfl ?_; go_big_quiet_step (fail); refine wpQuiet_nil ?_)
                      refine wpI_call (f := 29) (args := #[.int .i64 xs[k]]) rfl rfl rfl (by simp [go_sem]) ?_
                      refine (rIsDigest_any _ _).mono ?_
                      rintro e w' ⟨rfl, rfl⟩
                      refine ⟨_, rfl, Below.refl _ _, ?_⟩
                      try simp only [Act.put, List.setIfInBounds_toArray, List.set_cons_zero, List.set_cons_succ]
                      repeat (refine wpI_rd rfl rfl ?_; go_big_quiet_step (fail); refine wpQuiet_nil ?_)
                      refine wpI_nil ?_
                      try simp only [Act.put, List.setIfInBounds_toArray, List.set_cons_zero, List.set_cons_succ]
                      go_wp2_with fail
                      go_roundw
                      case rel => exact ⟨k + 1, hlt2, by go_num, E, hbw.drew⟩
                      case measure => simp [intOf]; omega
                · have hk2 : k = xs.length := by omega
                  have EU := Lib.hid (show U = 0 by rw [← hu.out, hk2, Pl.usedAt_end])
                  have t5 : decide (k < xs.length) = false := by simp; omega
                  have t6 : decide ((k : Int) < (xs.length : Int)) = false := by simp; omega
                  clear hk2
                  have EZ := Lib.hid (HZ.out EU.out)
                  clear HZ HL
                  have A0 := AB.c 0 _ rfl
                  have A1 := AB.c 1 _ rfl
                  have A2 := AB.c 2 _ rfl
                  have A3 := AB.c 3 _ rfl
                  have A4 := AB.c 4 _ rfl
                  have A5 := AB.c 5 _ rfl
                  have A6 := AB.c 6 _ rfl
                  have Af0 := AB.f 0 (Nat.le_of_ble_eq_true rfl)
                  have Af1 := AB.f 1 (Nat.le_of_ble_eq_true rfl)
                  have Af2 := AB.f 2 (Nat.le_of_ble_eq_true rfl)
                  have Af3 := AB.f 3 (Nat.le_of_ble_eq_true rfl)
                  have Af4 := AB.f 4 (Nat.le_of_ble_eq_true rfl)
                  have Af5 := AB.f 5 (Nat.le_of_ble_eq_true rfl)
                  have Af6 := AB.f 6 (Nat.le_of_ble_eq_true rfl)
                  have Al := AB.lt
                  cases c1 : decide (now < t) with
                  | true =>
                    have E := Lib.hid (show F1 = (16, 0) by rw [EZ.out, if_pos (by simp [c1])])
                    clear EZ
                    have q1 : True := trivial
                    go_wp2_with fail
                    refine (rfault_any _ _ _).mono ?_
                    rintro e w2 ⟨rfl, hb2⟩
                    have B2 : Below w.heap.size w w2 := bcall (by go_grown) hb2 (by go_size)
                    have s2 := B2.size
                    have q2 : wr.heap.size ≤ w2.heap.size := by have h := hb2.size; first | omega | (simp at h; omega)
                    obtain ⟨ba0, ba1, baf, bag, bal⟩ := (Box2.mk ba0 ba1 baf bag bal).below hb2 (by go_size)
                    clear A0 A1 A2 A3 A4 A5 A6 Af0 Af1 Af2 Af3 Af4 Af5 Af6 Al
                    replace AB := AB.below hb2 (by have h := AB.lt; go_size)
                    have A0 := AB.c 0 _ rfl
                    have A1 := AB.c 1 _ rfl
                    have A2 := AB.c 2 _ rfl
                    have A3 := AB.c 3 _ rfl
                    have A4 := AB.c 4 _ rfl
                    have A5 := AB.c 5 _ rfl
                    have A6 := AB.c 6 _ rfl
                    have Af0 := AB.f 0 (Nat.le_of_ble_eq_true rfl)
                    have Af1 := AB.f 1 (Nat.le_of_ble_eq_true rfl)
                    have Af2 := AB.f 2 (Nat.le_of_ble_eq_true rfl)
                    have Af3 := AB.f 3 (Nat.le_of_ble_eq_true rfl)
                    have Af4 := AB.f 4 (Nat.le_of_ble_eq_true rfl)
                    have Af5 := AB.f 5 (Nat.le_of_ble_eq_true rfl)
                    have Af6 := AB.f 6 (Nat.le_of_ble_eq_true rfl)
                    have Al := AB.lt
                    replace hs := hs.below hb2 (Nat.le_refl _)
                    clear hb2
                    go_wp2_with fail
                    refine bodyPost_ret (v := .agg #[.int .i64 (16), .int .i64 (0)]) (by simp [results, Try.results25, go_sem, ba0, ba1]) rfl ⟨by rw [E.out], by go_grown <;> exact B2⟩
                  | false =>
                    cases c2 : decide (t < now - window) with
                    | true =>
                      have E := Lib.hid (show F1 = (16, 0) by rw [EZ.out, if_pos (by simp [c2])])
                      clear EZ
                      have q1 : True := trivial
                      go_wp2_with fail
                      refine (rfault_any _ _ _).mono ?_
                      rintro e w2 ⟨rfl, hb2⟩
                      have B2 : Below w.heap.size w w2 := bcall (by go_grown) hb2 (by go_size)
                      have s2 := B2.size
                      have q2 : wr.heap.size ≤ w2.heap.size := by have h := hb2.size; first | omega | (simp at h; omega)
                      obtain ⟨ba0, ba1, baf, bag, bal⟩ := (Box2.mk ba0 ba1 baf bag bal).below hb2 (by go_size)
                      clear A0 A1 A2 A3 A4 A5 A6 Af0 Af1 Af2 Af3 Af4 Af5 Af6 Al
                      replace AB := AB.below hb2 (by have h := AB.lt; go_size)
                      have A0 := AB.c 0 _ rfl
                      have A1 := AB.c 1 _ rfl
                      have A2 := AB.c 2 _ rfl
                      have A3 := AB.c 3 _ rfl
                      have A4 := AB.c 4 _ rfl
                      have A5 := AB.c 5 _ rfl
                      have A6 := AB.c 6 _ rfl
                      have Af0 := AB.f 0 (Nat.le_of_ble_eq_true rfl)
                      have Af1 := AB.f 1 (Nat.le_of_ble_eq_true rfl)
                      have Af2 := AB.f 2 (Nat.le_of_ble_eq_true rfl)
                      have Af3 := AB.f 3 (Nat.le_of_ble_eq_true rfl)
                      have Af4 := AB.f 4 (Nat.le_of_ble_eq_true rfl)
                      have Af5 := AB.f 5 (Nat.le_of_ble_eq_true rfl)
                      have Af6 := AB.f 6 (Nat.le_of_ble_eq_true rfl)
                      have Al := AB.lt
                      replace hs := hs.below hb2 (Nat.le_refl _)
                      clear hb2
                      go_wp2_with fail
                      refine bodyPost_ret (v := .agg #[.int .i64 (16), .int .i64 (0)]) (by simp [results, Try.results25, go_sem, ba0, ba1]) rfl ⟨by rw [E.out], by go_grown <;> exact B2⟩
                    | false =>
                      by_cases c3 : n = NS
                      · have u3 : (n == NS) = true := by simp [c3]
                        have u3' : (n != NS) = false := by simp [c3]
                        by_cases c4 : s = SG
                        · have u4 : (s == SG) = true := by simp [c4]
                          have u4' : (s != SG) = false := by simp [c4]
                          by_cases c5 : n ∈ xs
                          · have E := Lib.hid (show F1 = (7, 0) by rw [EZ.out, if_neg (by simp [c1, c2]), if_neg (fun h => h c3), if_neg (fun h => h c4), if_pos (by simpa using c5)])
                            clear EZ
                            have u5 : decide (n ∈ xs) = true := by simpa using c5
                            clear c3 c4
                            have q1 : True := trivial
                            go_wp2_with fail
                            refine wp_region_ord [0, 1, 2, 3, 4, 5, 6] (by kernel_rfl) (by kernel_rfl) ?_
                            repeat (refine wpI_rd rfl rfl ?_; go_big_quiet_step (fail); refine wpQuiet_nil ?_)
                            refine wpI_call (f := 20) (args := #[.int .i64 secret, .int .i64 t]) rfl rfl rfl (by simp [go_sem]) ?_
                            refine (RNonce_ok secret t _ hk ht).mono ?_
                            rw [HNS.out]
                            rintro e w2 ⟨rfl, hb2⟩
                            refine ⟨_, rfl, hb2, ?_⟩
                            have B2 : Below w.heap.size w w2 := bcall (by go_grown) hb2 (by go_size)
                            have s2 := B2.size
                            have q2 : wr.heap.size ≤ w2.heap.size := by have h := hb2.size; first | omega | (simp at h; omega)
                            obtain ⟨ba0, ba1, baf, bag, bal⟩ := (Box2.mk ba0 ba1 baf bag bal).drew.below hb2 (by go_size)
                            clear A0 A1 A2 A3 A4 A5 A6 Af0 Af1 Af2 Af3 Af4 Af5 Af6 Al
                            replace AB := AB.drew.below hb2 (by have h := AB.lt; go_size)
                            have A0 := AB.c 0 _ rfl
                            have A1 := AB.c 1 _ rfl
                            have A2 := AB.c 2 _ rfl
                            have A3 := AB.c 3 _ rfl
                            have A4 := AB.c 4 _ rfl
                            have A5 := AB.c 5 _ rfl
                            have A6 := AB.c 6 _ rfl
                            have Af0 := AB.f 0 (Nat.le_of_ble_eq_true rfl)
                            have Af1 := AB.f 1 (Nat.le_of_ble_eq_true rfl)
                            have Af2 := AB.f 2 (Nat.le_of_ble_eq_true rfl)
                            have Af3 := AB.f 3 (Nat.le_of_ble_eq_true rfl)
                            have Af4 := AB.f 4 (Nat.le_of_ble_eq_true rfl)
                            have Af5 := AB.f 5 (Nat.le_of_ble_eq_true rfl)
                            have Af6 := AB.f 6 (Nat.le_of_ble_eq_true rfl)
                            have Al := AB.lt
                            replace hs := (hs.below (by go_grown) (Nat.le_refl _)).below hb2 (Nat.le_refl _)
                            clear hb2
                            try simp only [Act.put, List.setIfInBounds_toArray, List.set_cons_zero, List.set_cons_succ]
                            repeat (refine wpI_rd rfl rfl ?_; go_big_quiet_step (fail); refine wpQuiet_nil ?_)
                            refine wpI_nil ?_
                            try simp only [Act.put, List.setIfInBounds_toArray, List.set_cons_zero, List.set_cons_succ]
                            go_wp2_with fail
                            refine wp_region_ord [0, 1, 2, 3, 4] (by kernel_rfl) (by kernel_rfl) ?_
                            repeat (refine wpI_rd rfl rfl ?_; go_big_quiet_step (fail); refine wpQuiet_nil ?_)
                            refine wpI_call (f := 24) (args := #[.agg #[.int .i64 n, .int .i64 t, .int .i64 ky, .string rf, .int .i64 o, .int .i64 nw, .int .i64 s]]) rfl rfl rfl (by simp [go_sem]) ?_
                            refine (CertSignature_ok n t ky rf o nw s _ HB.out h60).mono ?_
                            rw [HSG.out]
                            rintro e w3 ⟨rfl, hb3⟩
                            refine ⟨_, rfl, hb3, ?_⟩
                            have B3 : Below w.heap.size w w3 := bcall (by go_grown) hb3 (by go_size)
                            have s3 := B3.size
                            have q3 : w2.heap.size ≤ w3.heap.size := by have h := hb3.size; first | omega | (simp at h; omega)
                            obtain ⟨ba0, ba1, baf, bag, bal⟩ := (Box2.mk ba0 ba1 baf bag bal).drew.below hb3 (by go_size)
                            clear A0 A1 A2 A3 A4 A5 A6 Af0 Af1 Af2 Af3 Af4 Af5 Af6 Al
                            replace AB := AB.drew.below hb3 (by have h := AB.lt; go_size)
                            have A0 := AB.c 0 _ rfl
                            have A1 := AB.c 1 _ rfl
                            have A2 := AB.c 2 _ rfl
                            have A3 := AB.c 3 _ rfl
                            have A4 := AB.c 4 _ rfl
                            have A5 := AB.c 5 _ rfl
                            have A6 := AB.c 6 _ rfl
                            have Af0 := AB.f 0 (Nat.le_of_ble_eq_true rfl)
                            have Af1 := AB.f 1 (Nat.le_of_ble_eq_true rfl)
                            have Af2 := AB.f 2 (Nat.le_of_ble_eq_true rfl)
                            have Af3 := AB.f 3 (Nat.le_of_ble_eq_true rfl)
                            have Af4 := AB.f 4 (Nat.le_of_ble_eq_true rfl)
                            have Af5 := AB.f 5 (Nat.le_of_ble_eq_true rfl)
                            have Af6 := AB.f 6 (Nat.le_of_ble_eq_true rfl)
                            have Al := AB.lt
                            replace hs := (hs.below (by go_grown) (Nat.le_refl _)).below hb3 (Nat.le_refl _)
                            clear hb3
                            try simp only [Act.put, List.setIfInBounds_toArray, List.set_cons_zero, List.set_cons_succ]
                            repeat (refine wpI_rd rfl rfl ?_; go_big_quiet_step (fail); refine wpQuiet_nil ?_)
                            refine wpI_nil ?_
                            try simp only [Act.put, List.setIfInBounds_toArray, List.set_cons_zero, List.set_cons_succ]
                            go_wp2_with fail
                            refine (Has_any xs n _ _ _ hs hm).mono ?_
                            rintro e w' ⟨rfl, rfl⟩
                            go_wp2_with fail
                            refine (rfault_any _ _ _).mono ?_
                            rintro e w4 ⟨rfl, hb4⟩
                            have B4 : Below w.heap.size w w4 := bcall (by go_grown) hb4 (by go_size)
                            have s4 := B4.size
                            have q4 : w3.heap.size ≤ w4.heap.size := by have h := hb4.size; first | omega | (simp at h; omega)
                            obtain ⟨ba0, ba1, baf, bag, bal⟩ := (Box2.mk ba0 ba1 baf bag bal).below hb4 (by go_size)
                            clear A0 A1 A2 A3 A4 A5 A6 Af0 Af1 Af2 Af3 Af4 Af5 Af6 Al
                            replace AB := AB.below hb4 (by have h := AB.lt; go_size)
                            have A0 := AB.c 0 _ rfl
                            have A1 := AB.c 1 _ rfl
                            have A2 := AB.c 2 _ rfl
                            have A3 := AB.c 3 _ rfl
                            have A4 := AB.c 4 _ rfl
                            have A5 := AB.c 5 _ rfl
                            have A6 := AB.c 6 _ rfl
                            have Af0 := AB.f 0 (Nat.le_of_ble_eq_true rfl)
                            have Af1 := AB.f 1 (Nat.le_of_ble_eq_true rfl)
                            have Af2 := AB.f 2 (Nat.le_of_ble_eq_true rfl)
                            have Af3 := AB.f 3 (Nat.le_of_ble_eq_true rfl)
                            have Af4 := AB.f 4 (Nat.le_of_ble_eq_true rfl)
                            have Af5 := AB.f 5 (Nat.le_of_ble_eq_true rfl)
                            have Af6 := AB.f 6 (Nat.le_of_ble_eq_true rfl)
                            have Al := AB.lt
                            replace hs := hs.below hb4 (Nat.le_refl _)
                            clear hb4
                            go_wp2_with fail
                            refine bodyPost_ret (v := .agg #[.int .i64 (7), .int .i64 (0)]) (by simp [results, Try.results25, go_sem, ba0, ba1]) rfl ⟨by rw [E.out], by go_grown <;> exact B4⟩
                          · have u5 : decide (n ∈ xs) = false := by simpa using c5
                            by_cases c6 : xs.length = 40
                            · have E := Lib.hid (show F1 = (14, 0) by rw [EZ.out, if_neg (by simp [c1, c2]), if_neg (fun h => h c3), if_neg (fun h => h c4), if_neg (by simpa using c5), if_pos c6])
                              clear EZ
                              have u6 : decide (xs.length = 40) = true := by simp [c6]
                              have u6' : ((xs.length : Int) == 40) = true := by simp [c6]
                              clear c3 c4 c6
                              have q1 : True := trivial
                              go_wp2_with fail
                              refine wp_region_ord [0, 1, 2, 3, 4, 5, 6] (by kernel_rfl) (by kernel_rfl) ?_
                              repeat (refine wpI_rd rfl rfl ?_; go_big_quiet_step (fail); refine wpQuiet_nil ?_)
                              refine wpI_call (f := 20) (args := #[.int .i64 secret, .int .i64 t]) rfl rfl rfl (by simp [go_sem]) ?_
                              refine (RNonce_ok secret t _ hk ht).mono ?_
                              rw [HNS.out]
                              rintro e w2 ⟨rfl, hb2⟩
                              refine ⟨_, rfl, hb2, ?_⟩
                              have B2 : Below w.heap.size w w2 := bcall (by go_grown) hb2 (by go_size)
                              have s2 := B2.size
                              have q2 : wr.heap.size ≤ w2.heap.size := by have h := hb2.size; first | omega | (simp at h; omega)
                              obtain ⟨ba0, ba1, baf, bag, bal⟩ := (Box2.mk ba0 ba1 baf bag bal).drew.below hb2 (by go_size)
                              clear A0 A1 A2 A3 A4 A5 A6 Af0 Af1 Af2 Af3 Af4 Af5 Af6 Al
                              replace AB := AB.drew.below hb2 (by have h := AB.lt; go_size)
                              have A0 := AB.c 0 _ rfl
                              have A1 := AB.c 1 _ rfl
                              have A2 := AB.c 2 _ rfl
                              have A3 := AB.c 3 _ rfl
                              have A4 := AB.c 4 _ rfl
                              have A5 := AB.c 5 _ rfl
                              have A6 := AB.c 6 _ rfl
                              have Af0 := AB.f 0 (Nat.le_of_ble_eq_true rfl)
                              have Af1 := AB.f 1 (Nat.le_of_ble_eq_true rfl)
                              have Af2 := AB.f 2 (Nat.le_of_ble_eq_true rfl)
                              have Af3 := AB.f 3 (Nat.le_of_ble_eq_true rfl)
                              have Af4 := AB.f 4 (Nat.le_of_ble_eq_true rfl)
                              have Af5 := AB.f 5 (Nat.le_of_ble_eq_true rfl)
                              have Af6 := AB.f 6 (Nat.le_of_ble_eq_true rfl)
                              have Al := AB.lt
                              replace hs := (hs.below (by go_grown) (Nat.le_refl _)).below hb2 (Nat.le_refl _)
                              clear hb2
                              try simp only [Act.put, List.setIfInBounds_toArray, List.set_cons_zero, List.set_cons_succ]
                              repeat (refine wpI_rd rfl rfl ?_; go_big_quiet_step (fail); refine wpQuiet_nil ?_)
                              refine wpI_nil ?_
                              try simp only [Act.put, List.setIfInBounds_toArray, List.set_cons_zero, List.set_cons_succ]
                              go_wp2_with fail
                              refine wp_region_ord [0, 1, 2, 3, 4] (by kernel_rfl) (by kernel_rfl) ?_
                              repeat (refine wpI_rd rfl rfl ?_; go_big_quiet_step (fail); refine wpQuiet_nil ?_)
                              refine wpI_call (f := 24) (args := #[.agg #[.int .i64 n, .int .i64 t, .int .i64 ky, .string rf, .int .i64 o, .int .i64 nw, .int .i64 s]]) rfl rfl rfl (by simp [go_sem]) ?_
                              refine (CertSignature_ok n t ky rf o nw s _ HB.out h60).mono ?_
                              rw [HSG.out]
                              rintro e w3 ⟨rfl, hb3⟩
                              refine ⟨_, rfl, hb3, ?_⟩
                              have B3 : Below w.heap.size w w3 := bcall (by go_grown) hb3 (by go_size)
                              have s3 := B3.size
                              have q3 : w2.heap.size ≤ w3.heap.size := by have h := hb3.size; first | omega | (simp at h; omega)
                              obtain ⟨ba0, ba1, baf, bag, bal⟩ := (Box2.mk ba0 ba1 baf bag bal).drew.below hb3 (by go_size)
                              clear A0 A1 A2 A3 A4 A5 A6 Af0 Af1 Af2 Af3 Af4 Af5 Af6 Al
                              replace AB := AB.drew.below hb3 (by have h := AB.lt; go_size)
                              have A0 := AB.c 0 _ rfl
                              have A1 := AB.c 1 _ rfl
                              have A2 := AB.c 2 _ rfl
                              have A3 := AB.c 3 _ rfl
                              have A4 := AB.c 4 _ rfl
                              have A5 := AB.c 5 _ rfl
                              have A6 := AB.c 6 _ rfl
                              have Af0 := AB.f 0 (Nat.le_of_ble_eq_true rfl)
                              have Af1 := AB.f 1 (Nat.le_of_ble_eq_true rfl)
                              have Af2 := AB.f 2 (Nat.le_of_ble_eq_true rfl)
                              have Af3 := AB.f 3 (Nat.le_of_ble_eq_true rfl)
                              have Af4 := AB.f 4 (Nat.le_of_ble_eq_true rfl)
                              have Af5 := AB.f 5 (Nat.le_of_ble_eq_true rfl)
                              have Af6 := AB.f 6 (Nat.le_of_ble_eq_true rfl)
                              have Al := AB.lt
                              replace hs := (hs.below (by go_grown) (Nat.le_refl _)).below hb3 (Nat.le_refl _)
                              clear hb3
                              try simp only [Act.put, List.setIfInBounds_toArray, List.set_cons_zero, List.set_cons_succ]
                              repeat (refine wpI_rd rfl rfl ?_; go_big_quiet_step (fail); refine wpQuiet_nil ?_)
                              refine wpI_nil ?_
                              try simp only [Act.put, List.setIfInBounds_toArray, List.set_cons_zero, List.set_cons_succ]
                              go_wp2_with fail
                              refine (Has_any xs n _ _ _ hs hm).mono ?_
                              rintro e w' ⟨rfl, rfl⟩
                              go_wp2_with fail
                              refine (rfault_any _ _ _).mono ?_
                              rintro e w4 ⟨rfl, hb4⟩
                              have B4 : Below w.heap.size w w4 := bcall (by go_grown) hb4 (by go_size)
                              have s4 := B4.size
                              have q4 : w3.heap.size ≤ w4.heap.size := by have h := hb4.size; first | omega | (simp at h; omega)
                              obtain ⟨ba0, ba1, baf, bag, bal⟩ := (Box2.mk ba0 ba1 baf bag bal).below hb4 (by go_size)
                              clear A0 A1 A2 A3 A4 A5 A6 Af0 Af1 Af2 Af3 Af4 Af5 Af6 Al
                              replace AB := AB.below hb4 (by have h := AB.lt; go_size)
                              have A0 := AB.c 0 _ rfl
                              have A1 := AB.c 1 _ rfl
                              have A2 := AB.c 2 _ rfl
                              have A3 := AB.c 3 _ rfl
                              have A4 := AB.c 4 _ rfl
                              have A5 := AB.c 5 _ rfl
                              have A6 := AB.c 6 _ rfl
                              have Af0 := AB.f 0 (Nat.le_of_ble_eq_true rfl)
                              have Af1 := AB.f 1 (Nat.le_of_ble_eq_true rfl)
                              have Af2 := AB.f 2 (Nat.le_of_ble_eq_true rfl)
                              have Af3 := AB.f 3 (Nat.le_of_ble_eq_true rfl)
                              have Af4 := AB.f 4 (Nat.le_of_ble_eq_true rfl)
                              have Af5 := AB.f 5 (Nat.le_of_ble_eq_true rfl)
                              have Af6 := AB.f 6 (Nat.le_of_ble_eq_true rfl)
                              have Al := AB.lt
                              replace hs := hs.below hb4 (Nat.le_refl _)
                              clear hb4
                              go_wp2_with fail
                              refine bodyPost_ret (v := .agg #[.int .i64 (14), .int .i64 (0)]) (by simp [results, Try.results25, go_sem, ba0, ba1]) rfl ⟨by rw [E.out], by go_grown <;> exact B4⟩
                            · have E := Lib.hid (show F1 = (0, 0) by rw [EZ.out, if_neg (by simp [c1, c2]), if_neg (fun h => h c3), if_neg (fun h => h c4), if_neg (by simpa using c5), if_neg c6])
                              clear EZ
                              have u6 : decide (xs.length = 40) = false := by simp [c6]
                              have u6' : ((xs.length : Int) == 40) = false := by simp; omega
                              clear c3 c4 c6
                              have q1 : True := trivial
                              go_wp2_with fail
                              refine wp_region_ord [0, 1, 2, 3, 4, 5, 6] (by kernel_rfl) (by kernel_rfl) ?_
                              repeat (refine wpI_rd rfl rfl ?_; go_big_quiet_step (fail); refine wpQuiet_nil ?_)
                              refine wpI_call (f := 20) (args := #[.int .i64 secret, .int .i64 t]) rfl rfl rfl (by simp [go_sem]) ?_
                              refine (RNonce_ok secret t _ hk ht).mono ?_
                              rw [HNS.out]
                              rintro e w2 ⟨rfl, hb2⟩
                              refine ⟨_, rfl, hb2, ?_⟩
                              have B2 : Below w.heap.size w w2 := bcall (by go_grown) hb2 (by go_size)
                              have s2 := B2.size
                              have q2 : wr.heap.size ≤ w2.heap.size := by have h := hb2.size; first | omega | (simp at h; omega)
                              obtain ⟨ba0, ba1, baf, bag, bal⟩ := (Box2.mk ba0 ba1 baf bag bal).drew.below hb2 (by go_size)
                              clear A0 A1 A2 A3 A4 A5 A6 Af0 Af1 Af2 Af3 Af4 Af5 Af6 Al
                              replace AB := AB.drew.below hb2 (by have h := AB.lt; go_size)
                              have A0 := AB.c 0 _ rfl
                              have A1 := AB.c 1 _ rfl
                              have A2 := AB.c 2 _ rfl
                              have A3 := AB.c 3 _ rfl
                              have A4 := AB.c 4 _ rfl
                              have A5 := AB.c 5 _ rfl
                              have A6 := AB.c 6 _ rfl
                              have Af0 := AB.f 0 (Nat.le_of_ble_eq_true rfl)
                              have Af1 := AB.f 1 (Nat.le_of_ble_eq_true rfl)
                              have Af2 := AB.f 2 (Nat.le_of_ble_eq_true rfl)
                              have Af3 := AB.f 3 (Nat.le_of_ble_eq_true rfl)
                              have Af4 := AB.f 4 (Nat.le_of_ble_eq_true rfl)
                              have Af5 := AB.f 5 (Nat.le_of_ble_eq_true rfl)
                              have Af6 := AB.f 6 (Nat.le_of_ble_eq_true rfl)
                              have Al := AB.lt
                              replace hs := (hs.below (by go_grown) (Nat.le_refl _)).below hb2 (Nat.le_refl _)
                              clear hb2
                              try simp only [Act.put, List.setIfInBounds_toArray, List.set_cons_zero, List.set_cons_succ]
                              repeat (refine wpI_rd rfl rfl ?_; go_big_quiet_step (fail); refine wpQuiet_nil ?_)
                              refine wpI_nil ?_
                              try simp only [Act.put, List.setIfInBounds_toArray, List.set_cons_zero, List.set_cons_succ]
                              go_wp2_with fail
                              refine wp_region_ord [0, 1, 2, 3, 4] (by kernel_rfl) (by kernel_rfl) ?_
                              repeat (refine wpI_rd rfl rfl ?_; go_big_quiet_step (fail); refine wpQuiet_nil ?_)
                              refine wpI_call (f := 24) (args := #[.agg #[.int .i64 n, .int .i64 t, .int .i64 ky, .string rf, .int .i64 o, .int .i64 nw, .int .i64 s]]) rfl rfl rfl (by simp [go_sem]) ?_
                              refine (CertSignature_ok n t ky rf o nw s _ HB.out h60).mono ?_
                              rw [HSG.out]
                              rintro e w3 ⟨rfl, hb3⟩
                              refine ⟨_, rfl, hb3, ?_⟩
                              have B3 : Below w.heap.size w w3 := bcall (by go_grown) hb3 (by go_size)
                              have s3 := B3.size
                              have q3 : w2.heap.size ≤ w3.heap.size := by have h := hb3.size; first | omega | (simp at h; omega)
                              obtain ⟨ba0, ba1, baf, bag, bal⟩ := (Box2.mk ba0 ba1 baf bag bal).drew.below hb3 (by go_size)
                              clear A0 A1 A2 A3 A4 A5 A6 Af0 Af1 Af2 Af3 Af4 Af5 Af6 Al
                              replace AB := AB.drew.below hb3 (by have h := AB.lt; go_size)
                              have A0 := AB.c 0 _ rfl
                              have A1 := AB.c 1 _ rfl
                              have A2 := AB.c 2 _ rfl
                              have A3 := AB.c 3 _ rfl
                              have A4 := AB.c 4 _ rfl
                              have A5 := AB.c 5 _ rfl
                              have A6 := AB.c 6 _ rfl
                              have Af0 := AB.f 0 (Nat.le_of_ble_eq_true rfl)
                              have Af1 := AB.f 1 (Nat.le_of_ble_eq_true rfl)
                              have Af2 := AB.f 2 (Nat.le_of_ble_eq_true rfl)
                              have Af3 := AB.f 3 (Nat.le_of_ble_eq_true rfl)
                              have Af4 := AB.f 4 (Nat.le_of_ble_eq_true rfl)
                              have Af5 := AB.f 5 (Nat.le_of_ble_eq_true rfl)
                              have Af6 := AB.f 6 (Nat.le_of_ble_eq_true rfl)
                              have Al := AB.lt
                              replace hs := (hs.below (by go_grown) (Nat.le_refl _)).below hb3 (Nat.le_refl _)
                              clear hb3
                              try simp only [Act.put, List.setIfInBounds_toArray, List.set_cons_zero, List.set_cons_succ]
                              repeat (refine wpI_rd rfl rfl ?_; go_big_quiet_step (fail); refine wpQuiet_nil ?_)
                              refine wpI_nil ?_
                              try simp only [Act.put, List.setIfInBounds_toArray, List.set_cons_zero, List.set_cons_succ]
                              go_wp2_with fail
                              refine (Has_any xs n _ _ _ hs hm).mono ?_
                              rintro e w' ⟨rfl, rfl⟩
                              go_wp2_with fail
                              refine bodyPost_ret (v := .agg #[.int .i64 (0), .int .i64 (0)]) (by simp [results, Try.results25, go_sem, ba0, ba1]) rfl ⟨by rw [E.out], by go_grown <;> exact B3⟩
                        · have E := Lib.hid (show F1 = (18, 2) by rw [EZ.out, if_neg (by simp [c1, c2]), if_neg (fun h => h c3), if_pos c4])
                          clear EZ
                          have u4 : (s == SG) = false := by simp [c4]
                          have u4' : (s != SG) = true := by simp [c4]
                          clear c3 c4
                          have q1 : True := trivial
                          go_wp2_with fail
                          refine wp_region_ord [0, 1, 2, 3, 4, 5, 6] (by kernel_rfl) (by kernel_rfl) ?_
                          repeat (refine wpI_rd rfl rfl ?_; go_big_quiet_step (fail); refine wpQuiet_nil ?_)
                          refine wpI_call (f := 20) (args := #[.int .i64 secret, .int .i64 t]) rfl rfl rfl (by simp [go_sem]) ?_
                          refine (RNonce_ok secret t _ hk ht).mono ?_
                          rw [HNS.out]
                          rintro e w2 ⟨rfl, hb2⟩
                          refine ⟨_, rfl, hb2, ?_⟩
                          have B2 : Below w.heap.size w w2 := bcall (by go_grown) hb2 (by go_size)
                          have s2 := B2.size
                          have q2 : wr.heap.size ≤ w2.heap.size := by have h := hb2.size; first | omega | (simp at h; omega)
                          obtain ⟨ba0, ba1, baf, bag, bal⟩ := (Box2.mk ba0 ba1 baf bag bal).drew.below hb2 (by go_size)
                          clear A0 A1 A2 A3 A4 A5 A6 Af0 Af1 Af2 Af3 Af4 Af5 Af6 Al
                          replace AB := AB.drew.below hb2 (by have h := AB.lt; go_size)
                          have A0 := AB.c 0 _ rfl
                          have A1 := AB.c 1 _ rfl
                          have A2 := AB.c 2 _ rfl
                          have A3 := AB.c 3 _ rfl
                          have A4 := AB.c 4 _ rfl
                          have A5 := AB.c 5 _ rfl
                          have A6 := AB.c 6 _ rfl
                          have Af0 := AB.f 0 (Nat.le_of_ble_eq_true rfl)
                          have Af1 := AB.f 1 (Nat.le_of_ble_eq_true rfl)
                          have Af2 := AB.f 2 (Nat.le_of_ble_eq_true rfl)
                          have Af3 := AB.f 3 (Nat.le_of_ble_eq_true rfl)
                          have Af4 := AB.f 4 (Nat.le_of_ble_eq_true rfl)
                          have Af5 := AB.f 5 (Nat.le_of_ble_eq_true rfl)
                          have Af6 := AB.f 6 (Nat.le_of_ble_eq_true rfl)
                          have Al := AB.lt
                          replace hs := (hs.below (by go_grown) (Nat.le_refl _)).below hb2 (Nat.le_refl _)
                          clear hb2
                          try simp only [Act.put, List.setIfInBounds_toArray, List.set_cons_zero, List.set_cons_succ]
                          repeat (refine wpI_rd rfl rfl ?_; go_big_quiet_step (fail); refine wpQuiet_nil ?_)
                          refine wpI_nil ?_
                          try simp only [Act.put, List.setIfInBounds_toArray, List.set_cons_zero, List.set_cons_succ]
                          go_wp2_with fail
                          refine wp_region_ord [0, 1, 2, 3, 4] (by kernel_rfl) (by kernel_rfl) ?_
                          repeat (refine wpI_rd rfl rfl ?_; go_big_quiet_step (fail); refine wpQuiet_nil ?_)
                          refine wpI_call (f := 24) (args := #[.agg #[.int .i64 n, .int .i64 t, .int .i64 ky, .string rf, .int .i64 o, .int .i64 nw, .int .i64 s]]) rfl rfl rfl (by simp [go_sem]) ?_
                          refine (CertSignature_ok n t ky rf o nw s _ HB.out h60).mono ?_
                          rw [HSG.out]
                          rintro e w3 ⟨rfl, hb3⟩
                          refine ⟨_, rfl, hb3, ?_⟩
                          have B3 : Below w.heap.size w w3 := bcall (by go_grown) hb3 (by go_size)
                          have s3 := B3.size
                          have q3 : w2.heap.size ≤ w3.heap.size := by have h := hb3.size; first | omega | (simp at h; omega)
                          obtain ⟨ba0, ba1, baf, bag, bal⟩ := (Box2.mk ba0 ba1 baf bag bal).drew.below hb3 (by go_size)
                          clear A0 A1 A2 A3 A4 A5 A6 Af0 Af1 Af2 Af3 Af4 Af5 Af6 Al
                          replace AB := AB.drew.below hb3 (by have h := AB.lt; go_size)
                          have A0 := AB.c 0 _ rfl
                          have A1 := AB.c 1 _ rfl
                          have A2 := AB.c 2 _ rfl
                          have A3 := AB.c 3 _ rfl
                          have A4 := AB.c 4 _ rfl
                          have A5 := AB.c 5 _ rfl
                          have A6 := AB.c 6 _ rfl
                          have Af0 := AB.f 0 (Nat.le_of_ble_eq_true rfl)
                          have Af1 := AB.f 1 (Nat.le_of_ble_eq_true rfl)
                          have Af2 := AB.f 2 (Nat.le_of_ble_eq_true rfl)
                          have Af3 := AB.f 3 (Nat.le_of_ble_eq_true rfl)
                          have Af4 := AB.f 4 (Nat.le_of_ble_eq_true rfl)
                          have Af5 := AB.f 5 (Nat.le_of_ble_eq_true rfl)
                          have Af6 := AB.f 6 (Nat.le_of_ble_eq_true rfl)
                          have Al := AB.lt
                          replace hs := (hs.below (by go_grown) (Nat.le_refl _)).below hb3 (Nat.le_refl _)
                          clear hb3
                          try simp only [Act.put, List.setIfInBounds_toArray, List.set_cons_zero, List.set_cons_succ]
                          repeat (refine wpI_rd rfl rfl ?_; go_big_quiet_step (fail); refine wpQuiet_nil ?_)
                          refine wpI_nil ?_
                          try simp only [Act.put, List.setIfInBounds_toArray, List.set_cons_zero, List.set_cons_succ]
                          go_wp2_with fail
                          refine (rfault_any _ _ _).mono ?_
                          rintro e w4 ⟨rfl, hb4⟩
                          have B4 : Below w.heap.size w w4 := bcall (by go_grown) hb4 (by go_size)
                          have s4 := B4.size
                          have q4 : w3.heap.size ≤ w4.heap.size := by have h := hb4.size; first | omega | (simp at h; omega)
                          obtain ⟨ba0, ba1, baf, bag, bal⟩ := (Box2.mk ba0 ba1 baf bag bal).below hb4 (by go_size)
                          clear A0 A1 A2 A3 A4 A5 A6 Af0 Af1 Af2 Af3 Af4 Af5 Af6 Al
                          replace AB := AB.below hb4 (by have h := AB.lt; go_size)
                          have A0 := AB.c 0 _ rfl
                          have A1 := AB.c 1 _ rfl
                          have A2 := AB.c 2 _ rfl
                          have A3 := AB.c 3 _ rfl
                          have A4 := AB.c 4 _ rfl
                          have A5 := AB.c 5 _ rfl
                          have A6 := AB.c 6 _ rfl
                          have Af0 := AB.f 0 (Nat.le_of_ble_eq_true rfl)
                          have Af1 := AB.f 1 (Nat.le_of_ble_eq_true rfl)
                          have Af2 := AB.f 2 (Nat.le_of_ble_eq_true rfl)
                          have Af3 := AB.f 3 (Nat.le_of_ble_eq_true rfl)
                          have Af4 := AB.f 4 (Nat.le_of_ble_eq_true rfl)
                          have Af5 := AB.f 5 (Nat.le_of_ble_eq_true rfl)
                          have Af6 := AB.f 6 (Nat.le_of_ble_eq_true rfl)
                          have Al := AB.lt
                          replace hs := hs.below hb4 (Nat.le_refl _)
                          clear hb4
                          go_wp2_with fail
                          refine bodyPost_ret (v := .agg #[.int .i64 (18), .int .i64 (2)]) (by simp [results, Try.results25, go_sem, ba0, ba1]) rfl ⟨by rw [E.out], by go_grown <;> exact B4⟩
                      · have E := Lib.hid (show F1 = (18, 1) by rw [EZ.out, if_neg (by simp [c1, c2]), if_pos c3])
                        clear EZ
                        have u3 : (n == NS) = false := by simp [c3]
                        have u3' : (n != NS) = true := by simp [c3]
                        clear c3
                        have q1 : True := trivial
                        go_wp2_with fail
                        refine wp_region_ord [0, 1, 2, 3, 4, 5, 6] (by kernel_rfl) (by kernel_rfl) ?_
                        repeat (refine wpI_rd rfl rfl ?_; go_big_quiet_step (fail); refine wpQuiet_nil ?_)
                        refine wpI_call (f := 20) (args := #[.int .i64 secret, .int .i64 t]) rfl rfl rfl (by simp [go_sem]) ?_
                        refine (RNonce_ok secret t _ hk ht).mono ?_
                        rw [HNS.out]
                        rintro e w2 ⟨rfl, hb2⟩
                        refine ⟨_, rfl, hb2, ?_⟩
                        have B2 : Below w.heap.size w w2 := bcall (by go_grown) hb2 (by go_size)
                        have s2 := B2.size
                        have q2 : wr.heap.size ≤ w2.heap.size := by have h := hb2.size; first | omega | (simp at h; omega)
                        obtain ⟨ba0, ba1, baf, bag, bal⟩ := (Box2.mk ba0 ba1 baf bag bal).drew.below hb2 (by go_size)
                        clear A0 A1 A2 A3 A4 A5 A6 Af0 Af1 Af2 Af3 Af4 Af5 Af6 Al
                        replace AB := AB.drew.below hb2 (by have h := AB.lt; go_size)
                        have A0 := AB.c 0 _ rfl
                        have A1 := AB.c 1 _ rfl
                        have A2 := AB.c 2 _ rfl
                        have A3 := AB.c 3 _ rfl
                        have A4 := AB.c 4 _ rfl
                        have A5 := AB.c 5 _ rfl
                        have A6 := AB.c 6 _ rfl
                        have Af0 := AB.f 0 (Nat.le_of_ble_eq_true rfl)
                        have Af1 := AB.f 1 (Nat.le_of_ble_eq_true rfl)
                        have Af2 := AB.f 2 (Nat.le_of_ble_eq_true rfl)
                        have Af3 := AB.f 3 (Nat.le_of_ble_eq_true rfl)
                        have Af4 := AB.f 4 (Nat.le_of_ble_eq_true rfl)
                        have Af5 := AB.f 5 (Nat.le_of_ble_eq_true rfl)
                        have Af6 := AB.f 6 (Nat.le_of_ble_eq_true rfl)
                        have Al := AB.lt
                        replace hs := (hs.below (by go_grown) (Nat.le_refl _)).below hb2 (Nat.le_refl _)
                        clear hb2
                        try simp only [Act.put, List.setIfInBounds_toArray, List.set_cons_zero, List.set_cons_succ]
                        repeat (refine wpI_rd rfl rfl ?_; go_big_quiet_step (fail); refine wpQuiet_nil ?_)
                        refine wpI_nil ?_
                        try simp only [Act.put, List.setIfInBounds_toArray, List.set_cons_zero, List.set_cons_succ]
                        go_wp2_with fail
                        refine (rfault_any _ _ _).mono ?_
                        rintro e w3 ⟨rfl, hb3⟩
                        have B3 : Below w.heap.size w w3 := bcall (by go_grown) hb3 (by go_size)
                        have s3 := B3.size
                        have q3 : w2.heap.size ≤ w3.heap.size := by have h := hb3.size; first | omega | (simp at h; omega)
                        obtain ⟨ba0, ba1, baf, bag, bal⟩ := (Box2.mk ba0 ba1 baf bag bal).below hb3 (by go_size)
                        clear A0 A1 A2 A3 A4 A5 A6 Af0 Af1 Af2 Af3 Af4 Af5 Af6 Al
                        replace AB := AB.below hb3 (by have h := AB.lt; go_size)
                        have A0 := AB.c 0 _ rfl
                        have A1 := AB.c 1 _ rfl
                        have A2 := AB.c 2 _ rfl
                        have A3 := AB.c 3 _ rfl
                        have A4 := AB.c 4 _ rfl
                        have A5 := AB.c 5 _ rfl
                        have A6 := AB.c 6 _ rfl
                        have Af0 := AB.f 0 (Nat.le_of_ble_eq_true rfl)
                        have Af1 := AB.f 1 (Nat.le_of_ble_eq_true rfl)
                        have Af2 := AB.f 2 (Nat.le_of_ble_eq_true rfl)
                        have Af3 := AB.f 3 (Nat.le_of_ble_eq_true rfl)
                        have Af4 := AB.f 4 (Nat.le_of_ble_eq_true rfl)
                        have Af5 := AB.f 5 (Nat.le_of_ble_eq_true rfl)
                        have Af6 := AB.f 6 (Nat.le_of_ble_eq_true rfl)
                        have Al := AB.lt
                        replace hs := hs.below hb3 (Nat.le_refl _)
                        clear hb3
                        go_wp2_with fail
                        refine bodyPost_ret (v := .agg #[.int .i64 (18), .int .i64 (1)]) (by simp [results, Try.results25, go_sem, ba0, ba1]) rfl ⟨by rw [E.out], by go_grown <;> exact B3⟩
            · have hu : Pl.usedC xs = 2 := by simp [Pl.usedC, hn40]
              have E := Lib.hid (show F1 = (2, -3) by rw [← EF.out]; simp only [Pl.pushF]; rw [if_pos hF, if_pos hd, if_pos hk, if_pos (by rw [h1, h2]; rfl), hu]; rfl)
              have e40 : decide ((40 : Int) < (xs.length : Int)) = true := by simp; omega
              go_enter Try.func25, Try.ntmps25
              go_wp2_with (first | (go_at_call 29; refine (rIsDigest_any _ _).mono ?_; rintro e w' ⟨rfl, rfl⟩) | (go_at_call 16; refine (rIsKey_any _ _).mono ?_; rintro e w' ⟨rfl, rfl⟩) | (go_at_call 44; refine (rin_any _ _ _ _).mono ?_; rintro e w' ⟨rfl, rfl⟩))
              refine (CertFault_any ⟨n, t, ky, rf, o, nw, s⟩ _).mono ?_
              rw [HG.out]
              rintro e w1 ⟨rfl, hb1⟩
              have B1 : Below w.heap.size w w1 := bcall (by go_grown) hb1 (by go_size)
              have s1 := B1.size
              have q1 : w.heap.size + 2 ≤ w1.heap.size := by have h := hb1.size; first | omega | (simp at h; omega)
              have bah := (Box2.new (w.alloc (.cells #[.int .i64 n, .int .i64 t, .int .i64 ky, .string rf, .int .i64 o, .int .i64 nw, .int .i64 s] 23)) (.int .i64 0) (.int .i64 0) 26).below hb1 (by go_size)
              simp only [World.size_alloc] at bah
              obtain ⟨ba0, ba1, baf, bag, bal⟩ := bah
              have AB := ((Blk.new w [.int .i64 n, .int .i64 t, .int .i64 ky, .string rf, .int .i64 o, .int .i64 nw, .int .i64 s] 23 (g := w.heap.size) (by go_size)).alloc (.cells #[(.int .i64 0), (.int .i64 0)] 26)).below hb1 (by go_size)
              have A0 := AB.c 0 _ rfl
              have A1 := AB.c 1 _ rfl
              have A2 := AB.c 2 _ rfl
              have A3 := AB.c 3 _ rfl
              have A4 := AB.c 4 _ rfl
              have A5 := AB.c 5 _ rfl
              have A6 := AB.c 6 _ rfl
              have Af0 := AB.f 0 (Nat.le_of_ble_eq_true rfl)
              have Af1 := AB.f 1 (Nat.le_of_ble_eq_true rfl)
              have Af2 := AB.f 2 (Nat.le_of_ble_eq_true rfl)
              have Af3 := AB.f 3 (Nat.le_of_ble_eq_true rfl)
              have Af4 := AB.f 4 (Nat.le_of_ble_eq_true rfl)
              have Af5 := AB.f 5 (Nat.le_of_ble_eq_true rfl)
              have Af6 := AB.f 6 (Nat.le_of_ble_eq_true rfl)
              have Al := AB.lt
              replace hs := (hs.below (by go_grown) (Nat.le_refl _)).below hb1 (Nat.le_refl _)
              clear hb1
              go_wp2_with (first | (go_at_call 29; refine (rIsDigest_any _ _).mono ?_; rintro e w' ⟨rfl, rfl⟩) | (go_at_call 16; refine (rIsKey_any _ _).mono ?_; rintro e w' ⟨rfl, rfl⟩) | (go_at_call 44; refine (rin_any _ _ _ _).mono ?_; rintro e w' ⟨rfl, rfl⟩))
              refine (rfault_any _ _ _).mono ?_
              rintro e w2 ⟨rfl, hb2⟩
              have B2 : Below w.heap.size w w2 := bcall (by go_grown) hb2 (by go_size)
              have s2 := B2.size
              have q2 : w1.heap.size + 1 ≤ w2.heap.size := by have h := hb2.size; first | omega | (simp at h; omega)
              obtain ⟨ba0, ba1, baf, bag, bal⟩ := ((Box2.mk ba0 ba1 baf bag bal).alloc (.cells #[(.int .i64 0), (.int .i64 0)] 26)).below hb2 (by go_size)
              obtain ⟨bb0, bb1, bbf, bbg, bbl⟩ := (Box2.new w1 (.int .i64 0) (.int .i64 0) 26).below hb2 (by go_size)
              clear A0 A1 A2 A3 A4 A5 A6 Af0 Af1 Af2 Af3 Af4 Af5 Af6 Al
              replace AB := (AB.alloc (.cells #[(.int .i64 0), (.int .i64 0)] 26)).below hb2 (by have h := AB.lt; go_size)
              have A0 := AB.c 0 _ rfl
              have A1 := AB.c 1 _ rfl
              have A2 := AB.c 2 _ rfl
              have A3 := AB.c 3 _ rfl
              have A4 := AB.c 4 _ rfl
              have A5 := AB.c 5 _ rfl
              have A6 := AB.c 6 _ rfl
              have Af0 := AB.f 0 (Nat.le_of_ble_eq_true rfl)
              have Af1 := AB.f 1 (Nat.le_of_ble_eq_true rfl)
              have Af2 := AB.f 2 (Nat.le_of_ble_eq_true rfl)
              have Af3 := AB.f 3 (Nat.le_of_ble_eq_true rfl)
              have Af4 := AB.f 4 (Nat.le_of_ble_eq_true rfl)
              have Af5 := AB.f 5 (Nat.le_of_ble_eq_true rfl)
              have Af6 := AB.f 6 (Nat.le_of_ble_eq_true rfl)
              have Al := AB.lt
              replace hs := (hs.below (by go_grown) (Nat.le_refl _)).below hb2 (Nat.le_refl _)
              clear hb2
              go_wp2_with fail
              refine bodyPost_ret (v := .agg #[.int .i64 (2), .int .i64 (-3)]) (by simp [results, Try.results25, go_sem, ba0, ba1]) rfl ⟨by rw [E.out], by go_grown <;> exact B2⟩
  · have E := Lib.hid (show F1 = G by rw [← EF.out]; simp only [Pl.pushF]; rw [if_neg hF, hG])
    have u1 : (G.1 == 0) = false := by rw [hG] at hF; simp [hF]
    have u2 : (G.1 != 0) = true := by rw [hG] at hF; simp [hF]
    clear hF hG
    go_enter Try.func25, Try.ntmps25
    go_wp2_with (first | (go_at_call 29; refine (rIsDigest_any _ _).mono ?_; rintro e w' ⟨rfl, rfl⟩) | (go_at_call 16; refine (rIsKey_any _ _).mono ?_; rintro e w' ⟨rfl, rfl⟩) | (go_at_call 44; refine (rin_any _ _ _ _).mono ?_; rintro e w' ⟨rfl, rfl⟩))
    refine (CertFault_any ⟨n, t, ky, rf, o, nw, s⟩ _).mono ?_
    rw [HG.out]
    rintro e w1 ⟨rfl, hb1⟩
    have B1 : Below w.heap.size w w1 := bcall (by go_grown) hb1 (by go_size)
    have s1 := B1.size
    have q1 : w.heap.size + 2 ≤ w1.heap.size := by have h := hb1.size; first | omega | (simp at h; omega)
    have bah := (Box2.new (w.alloc (.cells #[.int .i64 n, .int .i64 t, .int .i64 ky, .string rf, .int .i64 o, .int .i64 nw, .int .i64 s] 23)) (.int .i64 0) (.int .i64 0) 26).below hb1 (by go_size)
    simp only [World.size_alloc] at bah
    obtain ⟨ba0, ba1, baf, bag, bal⟩ := bah
    have AB := ((Blk.new w [.int .i64 n, .int .i64 t, .int .i64 ky, .string rf, .int .i64 o, .int .i64 nw, .int .i64 s] 23 (g := w.heap.size) (by go_size)).alloc (.cells #[(.int .i64 0), (.int .i64 0)] 26)).below hb1 (by go_size)
    have A0 := AB.c 0 _ rfl
    have A1 := AB.c 1 _ rfl
    have A2 := AB.c 2 _ rfl
    have A3 := AB.c 3 _ rfl
    have A4 := AB.c 4 _ rfl
    have A5 := AB.c 5 _ rfl
    have A6 := AB.c 6 _ rfl
    have Af0 := AB.f 0 (Nat.le_of_ble_eq_true rfl)
    have Af1 := AB.f 1 (Nat.le_of_ble_eq_true rfl)
    have Af2 := AB.f 2 (Nat.le_of_ble_eq_true rfl)
    have Af3 := AB.f 3 (Nat.le_of_ble_eq_true rfl)
    have Af4 := AB.f 4 (Nat.le_of_ble_eq_true rfl)
    have Af5 := AB.f 5 (Nat.le_of_ble_eq_true rfl)
    have Af6 := AB.f 6 (Nat.le_of_ble_eq_true rfl)
    have Al := AB.lt
    replace hs := (hs.below (by go_grown) (Nat.le_refl _)).below hb1 (Nat.le_refl _)
    clear hb1
    go_wp2_with (first | (go_at_call 29; refine (rIsDigest_any _ _).mono ?_; rintro e w' ⟨rfl, rfl⟩) | (go_at_call 16; refine (rIsKey_any _ _).mono ?_; rintro e w' ⟨rfl, rfl⟩) | (go_at_call 44; refine (rin_any _ _ _ _).mono ?_; rintro e w' ⟨rfl, rfl⟩))
    refine bodyPost_ret (v := .agg #[.int .i64 (G.1), .int .i64 (G.2)]) (by simp [results, Try.results25, go_sem, ba0, ba1, bal]) rfl ⟨by rw [E.out], by go_grown <;> exact B1⟩
end Go.Proofs.Ytkhkijpkgogncaa
