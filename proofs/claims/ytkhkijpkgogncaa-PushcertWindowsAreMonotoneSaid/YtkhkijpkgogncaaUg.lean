/- Contract: the check of a pushed certificate. -/
import Derived.Test.YtkhkijpkgogncaaUe
import Derived.Test.YtkhkijpkgogncaaKr
namespace Go.Proofs.Ytkhkijpkgogncaa
open Go.RowKit

set_option maxRecDepth 100000 in
set_option maxHeartbeats 4000000 in
theorem Check_early (secret now window : Int) (xs : List Int) (n t ky : Int) (rf : ByteArray) (o nw s : Int) (oa : Option Addr) (cap : Nat) (w : World) (hs : Sl w oa xs.length cap 1 (intVals xs)) (hm : xs.length ≤ 9223372036854775807) (hE : (Pl.certF ⟨n, t, ky, rf, o, nw, s⟩).1 ≠ 0 ∨ Pl.isDigestB s = false ∨ Pl.isKeyB secret = false ∨ Pl.isTimeB now = false ∨ Pl.isTimeB window = false ∨ Pl.usedC xs ≠ 0) :
    Calls Try.prog 26 #[.int .i64 secret, .int .i64 now, .int .i64 window, .slice oa xs.length cap, .agg (certCells ⟨n, t, ky, rf, o, nw, s⟩).toArray] w (RIntsF 3 (Pl.pushV secret now window xs ⟨n, t, ky, rf, o, nw, s⟩) (Pl.pushF secret now window xs ⟨n, t, ky, rf, o, nw, s⟩) w) := by
  unfold certCells
  simp only
  obtain ⟨F1, hF1⟩ : ∃ F, Pl.pushF secret now window xs ⟨n, t, ky, rf, o, nw, s⟩ = F := ⟨_, rfl⟩
  obtain ⟨V1, hV1⟩ : ∃ V, Pl.pushV secret now window xs ⟨n, t, ky, rf, o, nw, s⟩ = V := ⟨_, rfl⟩
  have hV2 := hV1
  unfold Pl.pushV at hV2
  rw [hF1] at hV2
  rw [hF1, hV1]
  clear hV1
  have EF := Lib.hid hF1
  have EV := Lib.hid (show F1.1 ≠ 0 → V1 = [] from fun h => by rw [← hV2, if_neg h])
  have EW := Lib.hid (show F1.1 = 0 → V1 = Pl.insS xs n from fun h => by rw [← hV2, if_pos h])
  clear hF1 hV2
  obtain ⟨G, hG⟩ : ∃ G, Pl.certF ⟨n, t, ky, rf, o, nw, s⟩ = G := ⟨_, rfl⟩
  have HG := Lib.hid hG
  obtain ⟨⟨vn, vt, vk, vr, vo, vw, vs⟩, hV⟩ : ∃ V, Pl.certV ⟨n, t, ky, rf, o, nw, s⟩ = V := ⟨_, rfl⟩
  have HV := Lib.hid hV
  clear hV
  by_cases hF : (Pl.certF ⟨n, t, ky, rf, o, nw, s⟩).1 = 0
  · have hF2 : G = (0, 0) := by
      rcases Pl.certF_cases ⟨n, t, ky, rf, o, nw, s⟩ with ⟨h, _⟩ | h
      · rw [← hG, h]
      · exact absurd hF h
    subst hF2
    cases hd : Pl.isDigestB s with
    | false =>
      have E := Lib.hid (show F1 = (3, 1) by rw [← EF.out]; simp only [Pl.pushF]; rw [if_pos hF, if_neg (by simp [hd])])
      have E2 := Lib.hid (EV.out (by rw [E.out]; decide))
      clear hE
      go_enter Try.func26, Try.ntmps26
      go_wp2_with (first | (go_at_call 52; refine (isDigest_any _ _).mono ?_; rintro e w' ⟨rfl, rfl⟩) | (go_at_call 45; refine (isKey_any _ _).mono ?_; rintro e w' ⟨rfl, rfl⟩) | (go_at_call 46; refine (isTime_any _ _).mono ?_; rintro e w' ⟨rfl, rfl⟩))
      refine (Certify_any ⟨n, t, ky, rf, o, nw, s⟩ _).mono ?_
      rw [HG.out, HV.out]
      rintro e w1 ⟨rfl, hb1⟩
      unfold certCells
      simp only
      have B1 : Below w.heap.size w w1 := bcall (by go_grown) hb1 (by go_size)
      have s1 := B1.size
      have q1 : w.heap.size + 2 ≤ w1.heap.size := by have h := hb1.size; first | omega | (simp at h; omega)
      have bah := (Box2.new (w.alloc (.cells #[.int .i64 n, .int .i64 t, .int .i64 ky, .string rf, .int .i64 o, .int .i64 nw, .int .i64 s] 23)) (.int .i64 0) (.int .i64 0) 26).below hb1 (by go_size)
      simp only [World.size_alloc] at bah
      obtain ⟨ba0, ba1, baf, bag, bal⟩ := bah
      have AB := ((Blk.new w [.int .i64 n, .int .i64 t, .int .i64 ky, .string rf, .int .i64 o, .int .i64 nw, .int .i64 s] 23 (g := w.heap.size) (by go_size)).alloc (.cells #[(.int .i64 0), (.int .i64 0)] 26)).below hb1 (by go_size)
      have A0 := AB.c 0 _ rfl
      have A1 := AB.c 1 _ rfl
      have A2 := AB.c 2 _ rfl
      have A3 := AB.c 3 _ rfl
      have A4 := AB.c 4 _ rfl
      have A5 := AB.c 5 _ rfl
      have A6 := AB.c 6 _ rfl
      have Af0 := AB.f 0 (Nat.le_of_ble_eq_true rfl)
      have Af1 := AB.f 1 (Nat.le_of_ble_eq_true rfl)
      have Af2 := AB.f 2 (Nat.le_of_ble_eq_true rfl)
      have Af3 := AB.f 3 (Nat.le_of_ble_eq_true rfl)
      have Af4 := AB.f 4 (Nat.le_of_ble_eq_true rfl)
      have Af5 := AB.f 5 (Nat.le_of_ble_eq_true rfl)
      have Af6 := AB.f 6 (Nat.le_of_ble_eq_true rfl)
      have Al := AB.lt
      replace hs := (hs.below (by go_grown) (Nat.le_refl _)).below hb1 (Nat.le_refl _)
      clear hb1
      go_wp2_with (first | (go_at_call 52; refine (isDigest_any _ _).mono ?_; rintro e w' ⟨rfl, rfl⟩) | (go_at_call 45; refine (isKey_any _ _).mono ?_; rintro e w' ⟨rfl, rfl⟩) | (go_at_call 46; refine (isTime_any _ _).mono ?_; rintro e w' ⟨rfl, rfl⟩))
      have RB := (((Box2.mk ba0 ba1 baf bag bal).set (.int .i64 (3)) (.int .i64 (1))).alloc (.cells #[.int .i64 vn, .int .i64 vt, .int .i64 vk, .string vr, .int .i64 vo, .int .i64 vw, .int .i64 vs] 23)).alloc (.cells #[.int .i64 0, .int .i64 0] 26)
      obtain ⟨RB0, RB1, -, -, -⟩ := RB
      refine bodyPost_ret (v := .tuple #[.slice none 0 0, .agg #[.int .i64 (3), .int .i64 (1)]]) (by simp [results, Try.results26, go_sem, RB0, RB1]) rfl (RIntsF.bad E.out E2.out (by go_grown))
    | true =>
      cases hk : Pl.isKeyB secret with
      | false =>
        have E := Lib.hid (show F1 = (3, -1) by rw [← EF.out]; simp only [Pl.pushF]; rw [if_pos hF, if_pos hd, if_neg (by simp [hk])])
        have E2 := Lib.hid (EV.out (by rw [E.out]; decide))
        clear hE
        go_enter Try.func26, Try.ntmps26
        go_wp2_with (first | (go_at_call 52; refine (isDigest_any _ _).mono ?_; rintro e w' ⟨rfl, rfl⟩) | (go_at_call 45; refine (isKey_any _ _).mono ?_; rintro e w' ⟨rfl, rfl⟩) | (go_at_call 46; refine (isTime_any _ _).mono ?_; rintro e w' ⟨rfl, rfl⟩))
        refine (Certify_any ⟨n, t, ky, rf, o, nw, s⟩ _).mono ?_
        rw [HG.out, HV.out]
        rintro e w1 ⟨rfl, hb1⟩
        unfold certCells
        simp only
        have B1 : Below w.heap.size w w1 := bcall (by go_grown) hb1 (by go_size)
        have s1 := B1.size
        have q1 : w.heap.size + 2 ≤ w1.heap.size := by have h := hb1.size; first | omega | (simp at h; omega)
        have bah := (Box2.new (w.alloc (.cells #[.int .i64 n, .int .i64 t, .int .i64 ky, .string rf, .int .i64 o, .int .i64 nw, .int .i64 s] 23)) (.int .i64 0) (.int .i64 0) 26).below hb1 (by go_size)
        simp only [World.size_alloc] at bah
        obtain ⟨ba0, ba1, baf, bag, bal⟩ := bah
        have AB := ((Blk.new w [.int .i64 n, .int .i64 t, .int .i64 ky, .string rf, .int .i64 o, .int .i64 nw, .int .i64 s] 23 (g := w.heap.size) (by go_size)).alloc (.cells #[(.int .i64 0), (.int .i64 0)] 26)).below hb1 (by go_size)
        have A0 := AB.c 0 _ rfl
        have A1 := AB.c 1 _ rfl
        have A2 := AB.c 2 _ rfl
        have A3 := AB.c 3 _ rfl
        have A4 := AB.c 4 _ rfl
        have A5 := AB.c 5 _ rfl
        have A6 := AB.c 6 _ rfl
        have Af0 := AB.f 0 (Nat.le_of_ble_eq_true rfl)
        have Af1 := AB.f 1 (Nat.le_of_ble_eq_true rfl)
        have Af2 := AB.f 2 (Nat.le_of_ble_eq_true rfl)
        have Af3 := AB.f 3 (Nat.le_of_ble_eq_true rfl)
        have Af4 := AB.f 4 (Nat.le_of_ble_eq_true rfl)
        have Af5 := AB.f 5 (Nat.le_of_ble_eq_true rfl)
        have Af6 := AB.f 6 (Nat.le_of_ble_eq_true rfl)
        have Al := AB.lt
        replace hs := (hs.below (by go_grown) (Nat.le_refl _)).below hb1 (Nat.le_refl _)
        clear hb1
        go_wp2_with (first | (go_at_call 52; refine (isDigest_any _ _).mono ?_; rintro e w' ⟨rfl, rfl⟩) | (go_at_call 45; refine (isKey_any _ _).mono ?_; rintro e w' ⟨rfl, rfl⟩) | (go_at_call 46; refine (isTime_any _ _).mono ?_; rintro e w' ⟨rfl, rfl⟩))
        have RB := (((Box2.mk ba0 ba1 baf bag bal).set (.int .i64 (3)) (.int .i64 (-1))).alloc (.cells #[.int .i64 vn, .int .i64 vt, .int .i64 vk, .string vr, .int .i64 vo, .int .i64 vw, .int .i64 vs] 23)).alloc (.cells #[.int .i64 0, .int .i64 0] 26)
        obtain ⟨RB0, RB1, -, -, -⟩ := RB
        refine bodyPost_ret (v := .tuple #[.slice none 0 0, .agg #[.int .i64 (3), .int .i64 (-1)]]) (by simp [results, Try.results26, go_sem, RB0, RB1]) rfl (RIntsF.bad E.out E2.out (by go_grown))
      | true =>
        cases h1 : Pl.isTimeB now with
        | false =>
          have E := Lib.hid (show F1 = (3, -2) by rw [← EF.out]; simp only [Pl.pushF]; rw [if_pos hF, if_pos hd, if_pos hk, if_neg (by simp [h1])])
          have E2 := Lib.hid (EV.out (by rw [E.out]; decide))
          clear hE
          go_enter Try.func26, Try.ntmps26
          go_wp2_with (first | (go_at_call 52; refine (isDigest_any _ _).mono ?_; rintro e w' ⟨rfl, rfl⟩) | (go_at_call 45; refine (isKey_any _ _).mono ?_; rintro e w' ⟨rfl, rfl⟩) | (go_at_call 46; refine (isTime_any _ _).mono ?_; rintro e w' ⟨rfl, rfl⟩))
          refine (Certify_any ⟨n, t, ky, rf, o, nw, s⟩ _).mono ?_
          rw [HG.out, HV.out]
          rintro e w1 ⟨rfl, hb1⟩
          unfold certCells
          simp only
          have B1 : Below w.heap.size w w1 := bcall (by go_grown) hb1 (by go_size)
          have s1 := B1.size
          have q1 : w.heap.size + 2 ≤ w1.heap.size := by have h := hb1.size; first | omega | (simp at h; omega)
          have bah := (Box2.new (w.alloc (.cells #[.int .i64 n, .int .i64 t, .int .i64 ky, .string rf, .int .i64 o, .int .i64 nw, .int .i64 s] 23)) (.int .i64 0) (.int .i64 0) 26).below hb1 (by go_size)
          simp only [World.size_alloc] at bah
          obtain ⟨ba0, ba1, baf, bag, bal⟩ := bah
          have AB := ((Blk.new w [.int .i64 n, .int .i64 t, .int .i64 ky, .string rf, .int .i64 o, .int .i64 nw, .int .i64 s] 23 (g := w.heap.size) (by go_size)).alloc (.cells #[(.int .i64 0), (.int .i64 0)] 26)).below hb1 (by go_size)
          have A0 := AB.c 0 _ rfl
          have A1 := AB.c 1 _ rfl
          have A2 := AB.c 2 _ rfl
          have A3 := AB.c 3 _ rfl
          have A4 := AB.c 4 _ rfl
          have A5 := AB.c 5 _ rfl
          have A6 := AB.c 6 _ rfl
          have Af0 := AB.f 0 (Nat.le_of_ble_eq_true rfl)
          have Af1 := AB.f 1 (Nat.le_of_ble_eq_true rfl)
          have Af2 := AB.f 2 (Nat.le_of_ble_eq_true rfl)
          have Af3 := AB.f 3 (Nat.le_of_ble_eq_true rfl)
          have Af4 := AB.f 4 (Nat.le_of_ble_eq_true rfl)
          have Af5 := AB.f 5 (Nat.le_of_ble_eq_true rfl)
          have Af6 := AB.f 6 (Nat.le_of_ble_eq_true rfl)
          have Al := AB.lt
          replace hs := (hs.below (by go_grown) (Nat.le_refl _)).below hb1 (Nat.le_refl _)
          clear hb1
          go_wp2_with (first | (go_at_call 52; refine (isDigest_any _ _).mono ?_; rintro e w' ⟨rfl, rfl⟩) | (go_at_call 45; refine (isKey_any _ _).mono ?_; rintro e w' ⟨rfl, rfl⟩) | (go_at_call 46; refine (isTime_any _ _).mono ?_; rintro e w' ⟨rfl, rfl⟩))
          have RB := (((Box2.mk ba0 ba1 baf bag bal).set (.int .i64 (3)) (.int .i64 (-2))).alloc (.cells #[.int .i64 vn, .int .i64 vt, .int .i64 vk, .string vr, .int .i64 vo, .int .i64 vw, .int .i64 vs] 23)).alloc (.cells #[.int .i64 0, .int .i64 0] 26)
          obtain ⟨RB0, RB1, -, -, -⟩ := RB
          refine bodyPost_ret (v := .tuple #[.slice none 0 0, .agg #[.int .i64 (3), .int .i64 (-2)]]) (by simp [results, Try.results26, go_sem, RB0, RB1]) rfl (RIntsF.bad E.out E2.out (by go_grown))
        | true =>
          cases h2 : Pl.isTimeB window with
          | false =>
            have E := Lib.hid (show F1 = (3, -2) by rw [← EF.out]; simp only [Pl.pushF]; rw [if_pos hF, if_pos hd, if_pos hk, if_neg (by simp [h2])])
            have E2 := Lib.hid (EV.out (by rw [E.out]; decide))
            clear hE
            go_enter Try.func26, Try.ntmps26
            go_wp2_with (first | (go_at_call 52; refine (isDigest_any _ _).mono ?_; rintro e w' ⟨rfl, rfl⟩) | (go_at_call 45; refine (isKey_any _ _).mono ?_; rintro e w' ⟨rfl, rfl⟩) | (go_at_call 46; refine (isTime_any _ _).mono ?_; rintro e w' ⟨rfl, rfl⟩))
            refine (Certify_any ⟨n, t, ky, rf, o, nw, s⟩ _).mono ?_
            rw [HG.out, HV.out]
            rintro e w1 ⟨rfl, hb1⟩
            unfold certCells
            simp only
            have B1 : Below w.heap.size w w1 := bcall (by go_grown) hb1 (by go_size)
            have s1 := B1.size
            have q1 : w.heap.size + 2 ≤ w1.heap.size := by have h := hb1.size; first | omega | (simp at h; omega)
            have bah := (Box2.new (w.alloc (.cells #[.int .i64 n, .int .i64 t, .int .i64 ky, .string rf, .int .i64 o, .int .i64 nw, .int .i64 s] 23)) (.int .i64 0) (.int .i64 0) 26).below hb1 (by go_size)
            simp only [World.size_alloc] at bah
            obtain ⟨ba0, ba1, baf, bag, bal⟩ := bah
            have AB := ((Blk.new w [.int .i64 n, .int .i64 t, .int .i64 ky, .string rf, .int .i64 o, .int .i64 nw, .int .i64 s] 23 (g := w.heap.size) (by go_size)).alloc (.cells #[(.int .i64 0), (.int .i64 0)] 26)).below hb1 (by go_size)
            have A0 := AB.c 0 _ rfl
            have A1 := AB.c 1 _ rfl
            have A2 := AB.c 2 _ rfl
            have A3 := AB.c 3 _ rfl
            have A4 := AB.c 4 _ rfl
            have A5 := AB.c 5 _ rfl
            have A6 := AB.c 6 _ rfl
            have Af0 := AB.f 0 (Nat.le_of_ble_eq_true rfl)
            have Af1 := AB.f 1 (Nat.le_of_ble_eq_true rfl)
            have Af2 := AB.f 2 (Nat.le_of_ble_eq_true rfl)
            have Af3 := AB.f 3 (Nat.le_of_ble_eq_true rfl)
            have Af4 := AB.f 4 (Nat.le_of_ble_eq_true rfl)
            have Af5 := AB.f 5 (Nat.le_of_ble_eq_true rfl)
            have Af6 := AB.f 6 (Nat.le_of_ble_eq_true rfl)
            have Al := AB.lt
            replace hs := (hs.below (by go_grown) (Nat.le_refl _)).below hb1 (Nat.le_refl _)
            clear hb1
            go_wp2_with (first | (go_at_call 52; refine (isDigest_any _ _).mono ?_; rintro e w' ⟨rfl, rfl⟩) | (go_at_call 45; refine (isKey_any _ _).mono ?_; rintro e w' ⟨rfl, rfl⟩) | (go_at_call 46; refine (isTime_any _ _).mono ?_; rintro e w' ⟨rfl, rfl⟩))
            have RB := (((Box2.mk ba0 ba1 baf bag bal).set (.int .i64 (3)) (.int .i64 (-2))).alloc (.cells #[.int .i64 vn, .int .i64 vt, .int .i64 vk, .string vr, .int .i64 vo, .int .i64 vw, .int .i64 vs] 23)).alloc (.cells #[.int .i64 0, .int .i64 0] 26)
            obtain ⟨RB0, RB1, -, -, -⟩ := RB
            refine bodyPost_ret (v := .tuple #[.slice none 0 0, .agg #[.int .i64 (3), .int .i64 (-2)]]) (by simp [results, Try.results26, go_sem, RB0, RB1]) rfl (RIntsF.bad E.out E2.out (by go_grown))
          | true =>
            have hu : Pl.usedC xs ≠ 0 := by
              rcases hE with h | h | h | h | h | h
              · exact absurd hF h
              · rw [hd] at h; cases h
              · rw [hk] at h; cases h
              · rw [h1] at h; cases h
              · rw [h2] at h; cases h
              · exact h
            clear hE
            have E := Lib.hid (show F1 = (Pl.usedC xs, -3) by rw [← EF.out]; simp only [Pl.pushF]; rw [if_pos hF, if_pos hd, if_pos hk, if_pos (by rw [h1, h2]; rfl), if_neg hu])
            have E2 := Lib.hid (EV.out (by rw [E.out]; exact hu))
            obtain ⟨U, hU⟩ : ∃ U, Pl.usedC xs = U := ⟨_, rfl⟩
            rw [hU] at E hu
            have HU := Lib.hid hU
            have u1 : (U == 0) = false := by simp [hu]
            have u2 : (U != 0) = true := by simp [hu]
            clear hU hu
            go_enter Try.func26, Try.ntmps26
            go_wp2_with (first | (go_at_call 52; refine (isDigest_any _ _).mono ?_; rintro e w' ⟨rfl, rfl⟩) | (go_at_call 45; refine (isKey_any _ _).mono ?_; rintro e w' ⟨rfl, rfl⟩) | (go_at_call 46; refine (isTime_any _ _).mono ?_; rintro e w' ⟨rfl, rfl⟩))
            refine (Certify_any ⟨n, t, ky, rf, o, nw, s⟩ _).mono ?_
            rw [HG.out, HV.out]
            rintro e w1 ⟨rfl, hb1⟩
            unfold certCells
            simp only
            have B1 : Below w.heap.size w w1 := bcall (by go_grown) hb1 (by go_size)
            have s1 := B1.size
            have q1 : w.heap.size + 2 ≤ w1.heap.size := by have h := hb1.size; first | omega | (simp at h; omega)
            have bah := (Box2.new (w.alloc (.cells #[.int .i64 n, .int .i64 t, .int .i64 ky, .string rf, .int .i64 o, .int .i64 nw, .int .i64 s] 23)) (.int .i64 0) (.int .i64 0) 26).below hb1 (by go_size)
            simp only [World.size_alloc] at bah
            obtain ⟨ba0, ba1, baf, bag, bal⟩ := bah
            have AB := ((Blk.new w [.int .i64 n, .int .i64 t, .int .i64 ky, .string rf, .int .i64 o, .int .i64 nw, .int .i64 s] 23 (g := w.heap.size) (by go_size)).alloc (.cells #[(.int .i64 0), (.int .i64 0)] 26)).below hb1 (by go_size)
            have A0 := AB.c 0 _ rfl
            have A1 := AB.c 1 _ rfl
            have A2 := AB.c 2 _ rfl
            have A3 := AB.c 3 _ rfl
            have A4 := AB.c 4 _ rfl
            have A5 := AB.c 5 _ rfl
            have A6 := AB.c 6 _ rfl
            have Af0 := AB.f 0 (Nat.le_of_ble_eq_true rfl)
            have Af1 := AB.f 1 (Nat.le_of_ble_eq_true rfl)
            have Af2 := AB.f 2 (Nat.le_of_ble_eq_true rfl)
            have Af3 := AB.f 3 (Nat.le_of_ble_eq_true rfl)
            have Af4 := AB.f 4 (Nat.le_of_ble_eq_true rfl)
            have Af5 := AB.f 5 (Nat.le_of_ble_eq_true rfl)
            have Af6 := AB.f 6 (Nat.le_of_ble_eq_true rfl)
            have Al := AB.lt
            replace hs := (hs.below (by go_grown) (Nat.le_refl _)).below hb1 (Nat.le_refl _)
            clear hb1
            go_wp2_with (first | (go_at_call 52; refine (isDigest_any _ _).mono ?_; rintro e w' ⟨rfl, rfl⟩) | (go_at_call 45; refine (isKey_any _ _).mono ?_; rintro e w' ⟨rfl, rfl⟩) | (go_at_call 46; refine (isTime_any _ _).mono ?_; rintro e w' ⟨rfl, rfl⟩))
            refine (checkUsed_any xs _ _ _ (hs.below (by go_grown) (Nat.le_refl _)) hm).mono ?_
            rw [HU.out]
            rintro e w2 ⟨rfl, hb2⟩
            have B2 : Below w.heap.size w w2 := bcall (by go_grown) hb2 (by go_size)
            have s2 := B2.size
            have q2 : w1.heap.size + 2 ≤ w2.heap.size := by have h := hb2.size; first | omega | (simp at h; omega)
            obtain ⟨ba0, ba1, baf, bag, bal⟩ := (((Box2.mk ba0 ba1 baf bag bal).alloc (.cells #[.int .i64 vn, .int .i64 vt, .int .i64 vk, .string vr, .int .i64 vo, .int .i64 vw, .int .i64 vs] 23)).alloc (.cells #[(.int .i64 0), (.int .i64 0)] 26)).below hb2 (by go_size)
            have bbh := (Box2.new (w1.alloc (.cells #[.int .i64 vn, .int .i64 vt, .int .i64 vk, .string vr, .int .i64 vo, .int .i64 vw, .int .i64 vs] 23)) (.int .i64 0) (.int .i64 0) 26).below hb2 (by go_size)
            simp only [World.size_alloc] at bbh
            obtain ⟨bb0, bb1, bbf, bbg, bbl⟩ := bbh
            clear A0 A1 A2 A3 A4 A5 A6 Af0 Af1 Af2 Af3 Af4 Af5 Af6 Al
            replace AB := ((AB.alloc (.cells #[.int .i64 vn, .int .i64 vt, .int .i64 vk, .string vr, .int .i64 vo, .int .i64 vw, .int .i64 vs] 23)).alloc (.cells #[(.int .i64 0), (.int .i64 0)] 26)).below hb2 (by have h := AB.lt; go_size)
            have A0 := AB.c 0 _ rfl
            have A1 := AB.c 1 _ rfl
            have A2 := AB.c 2 _ rfl
            have A3 := AB.c 3 _ rfl
            have A4 := AB.c 4 _ rfl
            have A5 := AB.c 5 _ rfl
            have A6 := AB.c 6 _ rfl
            have Af0 := AB.f 0 (Nat.le_of_ble_eq_true rfl)
            have Af1 := AB.f 1 (Nat.le_of_ble_eq_true rfl)
            have Af2 := AB.f 2 (Nat.le_of_ble_eq_true rfl)
            have Af3 := AB.f 3 (Nat.le_of_ble_eq_true rfl)
            have Af4 := AB.f 4 (Nat.le_of_ble_eq_true rfl)
            have Af5 := AB.f 5 (Nat.le_of_ble_eq_true rfl)
            have Af6 := AB.f 6 (Nat.le_of_ble_eq_true rfl)
            have Al := AB.lt
            have ZB := ((Blk.new w1 [.int .i64 vn, .int .i64 vt, .int .i64 vk, .string vr, .int .i64 vo, .int .i64 vw, .int .i64 vs] 23 (g := w1.heap.size) (by go_size)).alloc (.cells #[(.int .i64 0), (.int .i64 0)] 26)).below hb2 (by go_size)
            have Z0 := ZB.c 0 _ rfl
            have Z1 := ZB.c 1 _ rfl
            have Z2 := ZB.c 2 _ rfl
            have Z3 := ZB.c 3 _ rfl
            have Z4 := ZB.c 4 _ rfl
            have Z5 := ZB.c 5 _ rfl
            have Z6 := ZB.c 6 _ rfl
            have Zf0 := ZB.f 0 (Nat.le_of_ble_eq_true rfl)
            have Zf1 := ZB.f 1 (Nat.le_of_ble_eq_true rfl)
            have Zf2 := ZB.f 2 (Nat.le_of_ble_eq_true rfl)
            have Zf3 := ZB.f 3 (Nat.le_of_ble_eq_true rfl)
            have Zf4 := ZB.f 4 (Nat.le_of_ble_eq_true rfl)
            have Zf5 := ZB.f 5 (Nat.le_of_ble_eq_true rfl)
            have Zf6 := ZB.f 6 (Nat.le_of_ble_eq_true rfl)
            have Zl := ZB.lt
            replace hs := (hs.below (by go_grown) (Nat.le_refl _)).below hb2 (Nat.le_refl _)
            clear hb2
            go_wp2_with fail
            refine bodyPost_ret (v := .tuple #[.slice none 0 0, .agg #[.int .i64 (U), .int .i64 (-3)]]) (by simp [results, Try.results26, go_sem, ba0, ba1]) rfl (RIntsF.bad E.out E2.out (by go_grown))
  · have E := Lib.hid (show F1 = G by rw [← EF.out]; simp only [Pl.pushF]; rw [if_neg hF, hG])
    have E2 := Lib.hid (EV.out (by rw [E.out, ← hG]; exact hF))
    have u1 : (G.1 == 0) = false := by rw [hG] at hF; simp [hF]
    have u2 : (G.1 != 0) = true := by rw [hG] at hF; simp [hF]
    clear hF hG hE
    go_enter Try.func26, Try.ntmps26
    go_wp2_with (first | (go_at_call 52; refine (isDigest_any _ _).mono ?_; rintro e w' ⟨rfl, rfl⟩) | (go_at_call 45; refine (isKey_any _ _).mono ?_; rintro e w' ⟨rfl, rfl⟩) | (go_at_call 46; refine (isTime_any _ _).mono ?_; rintro e w' ⟨rfl, rfl⟩))
    refine (Certify_any ⟨n, t, ky, rf, o, nw, s⟩ _).mono ?_
    rw [HG.out, HV.out]
    rintro e w1 ⟨rfl, hb1⟩
    unfold certCells
    simp only
    have B1 : Below w.heap.size w w1 := bcall (by go_grown) hb1 (by go_size)
    have s1 := B1.size
    have q1 : w.heap.size + 2 ≤ w1.heap.size := by have h := hb1.size; first | omega | (simp at h; omega)
    have bah := (Box2.new (w.alloc (.cells #[.int .i64 n, .int .i64 t, .int .i64 ky, .string rf, .int .i64 o, .int .i64 nw, .int .i64 s] 23)) (.int .i64 0) (.int .i64 0) 26).below hb1 (by go_size)
    simp only [World.size_alloc] at bah
    obtain ⟨ba0, ba1, baf, bag, bal⟩ := bah
    have AB := ((Blk.new w [.int .i64 n, .int .i64 t, .int .i64 ky, .string rf, .int .i64 o, .int .i64 nw, .int .i64 s] 23 (g := w.heap.size) (by go_size)).alloc (.cells #[(.int .i64 0), (.int .i64 0)] 26)).below hb1 (by go_size)
    have A0 := AB.c 0 _ rfl
    have A1 := AB.c 1 _ rfl
    have A2 := AB.c 2 _ rfl
    have A3 := AB.c 3 _ rfl
    have A4 := AB.c 4 _ rfl
    have A5 := AB.c 5 _ rfl
    have A6 := AB.c 6 _ rfl
    have Af0 := AB.f 0 (Nat.le_of_ble_eq_true rfl)
    have Af1 := AB.f 1 (Nat.le_of_ble_eq_true rfl)
    have Af2 := AB.f 2 (Nat.le_of_ble_eq_true rfl)
    have Af3 := AB.f 3 (Nat.le_of_ble_eq_true rfl)
    have Af4 := AB.f 4 (Nat.le_of_ble_eq_true rfl)
    have Af5 := AB.f 5 (Nat.le_of_ble_eq_true rfl)
    have Af6 := AB.f 6 (Nat.le_of_ble_eq_true rfl)
    have Al := AB.lt
    replace hs := (hs.below (by go_grown) (Nat.le_refl _)).below hb1 (Nat.le_refl _)
    clear hb1
    go_wp2_with (first | (go_at_call 52; refine (isDigest_any _ _).mono ?_; rintro e w' ⟨rfl, rfl⟩) | (go_at_call 45; refine (isKey_any _ _).mono ?_; rintro e w' ⟨rfl, rfl⟩) | (go_at_call 46; refine (isTime_any _ _).mono ?_; rintro e w' ⟨rfl, rfl⟩))
    have n0 : w.heap.size + 1 ≠ w1.heap.size := by omega
    have n1 : w.heap.size + 1 ≠ w1.heap.size + 1 := by omega
    have BA := (((Box2.mk ba0 ba1 baf bag bal).alloc (.cells #[.int .i64 vn, .int .i64 vt, .int .i64 vk, .string vr, .int .i64 vo, .int .i64 vw, .int .i64 vs] 23)).alloc (.cells #[.int .i64 G.1, .int .i64 G.2] 26)).drew
    have BB := (Box2.new (w1.alloc (.cells #[.int .i64 vn, .int .i64 vt, .int .i64 vk, .string vr, .int .i64 vo, .int .i64 vw, .int .i64 vs] 23)) (.int .i64 G.1) (.int .i64 G.2) 26).drew
    simp only [World.size_alloc] at BB
    have BW := ((B1.alloc s1 (.cells #[.int .i64 vn, .int .i64 vt, .int .i64 vk, .string vr, .int .i64 vo, .int .i64 vw, .int .i64 vs] 23)).alloc (by simp; omega) (.cells #[.int .i64 G.1, .int .i64 G.2] 26)).drew
    clear ba0 ba1 baf bag bal hs AB A0 A1 A2 A3 A4 A5 A6 Af0 Af1 Af2 Af3 Af4 Af5 Af6 Al
    refine wp_region_ordD [(2, w.heap.size + 1)] [0, 1, 2] (by kernel_rfl) (by kernel_rfl) ?_
    generalize ((w1.alloc (.cells #[.int .i64 vn, .int .i64 vt, .int .i64 vk, .string vr, .int .i64 vo, .int .i64 vw, .int .i64 vs] 23)).alloc (.cells #[.int .i64 G.1, .int .i64 G.2] 26)).drew = W at *
    obtain ⟨ba0, ba1, baf, bag, bal⟩ := BA
    obtain ⟨bb0, bb1, bbf, bbg, bbl⟩ := BB
    refine wpD_rd [] (by kernel_rfl) rfl rfl ?_
    go_big_quiet_step (fail)
    refine wpQuiet_nil ?_
    repeat (refine wpD_pure rfl rfl ?_; go_big_quiet_step (fail); refine wpQuiet_nil ?_)
    try simp only [Act.put, List.setIfInBounds_toArray, List.set_cons_zero, List.set_cons_succ]
    refine wpD_st rfl rfl rfl (by simp [go_sem, ba0, ba1, baf, bag]; rfl) (((ExtD.refl _ _).setCell (by exact List.mem_singleton.2 rfl) _).setCell (by exact List.mem_singleton.2 rfl) _) ?_
    refine wpD_nil ?_
    try simp only [Act.put]
    go_wp2_with fail
    refine bodyPost_ret (v := .tuple #[.slice none 0 0, .agg #[.int .i64 (G.1), .int .i64 (G.2)]]) (by simp [results, Try.results26, go_sem, ba0, ba1]) rfl (RIntsF.bad E.out E2.out (by go_grown))
end Go.Proofs.Ytkhkijpkgogncaa
