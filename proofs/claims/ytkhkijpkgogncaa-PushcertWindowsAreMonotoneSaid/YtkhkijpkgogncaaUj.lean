/- Contract: the check of a pushed certificate, when it comes to the nonce. -/
import Derived.Test.YtkhkijpkgogncaaUi
import Derived.Test.YtkhkijpkgogncaaKr
namespace Go.Proofs.Ytkhkijpkgogncaa
open Go.RowKit

set_option maxRecDepth 100000 in
set_option maxHeartbeats 4000000 in
theorem Check_new (secret now window : Int) (xs : List Int) (n t ky : Int) (rf : ByteArray) (o nw s : Int) (oa : Option Addr) (cap : Nat) (w : World) (hs : Sl w oa xs.length cap 1 (intVals xs)) (hm : xs.length ≤ 9223372036854775807)
    (hF : Pl.certF ⟨n, t, ky, rf, o, nw, s⟩ = (0, 0)) (hd : Pl.isDigestB s = true) (hk : Pl.isKeyB secret = true) (h1 : Pl.isTimeB now = true) (h2 : Pl.isTimeB window = true) (hB : Pl.certB ⟨n, t, ky, rf, o, nw, s⟩ = true) (hu : Pl.usedC xs = 0) (hus : Pl.Used xs)
    (c1 : decide (now < t) = true) :
    Calls Try.prog 26 #[.int .i64 secret, .int .i64 now, .int .i64 window, .slice oa xs.length cap, .agg (certCells ⟨n, t, ky, rf, o, nw, s⟩).toArray] w (RIntsF 3 (Pl.pushV secret now window xs ⟨n, t, ky, rf, o, nw, s⟩) (Pl.pushF secret now window xs ⟨n, t, ky, rf, o, nw, s⟩) w) := by
  unfold certCells
  simp only
  obtain ⟨F1, hF1⟩ : ∃ F, Pl.pushF secret now window xs ⟨n, t, ky, rf, o, nw, s⟩ = F := ⟨_, rfl⟩
  obtain ⟨V1, hV1⟩ : ∃ V, Pl.pushV secret now window xs ⟨n, t, ky, rf, o, nw, s⟩ = V := ⟨_, rfl⟩
  have hV2 := hV1
  unfold Pl.pushV at hV2
  rw [hF1] at hV2
  rw [hF1, hV1]
  clear hV1
  have EV := Lib.hid (show F1.1 ≠ 0 → V1 = [] from fun h => by rw [← hV2, if_neg h])
  have EW := Lib.hid (show F1.1 = 0 → V1 = Pl.insS xs n from fun h => by rw [← hV2, if_pos h])
  have EZ := Lib.hid (show F1 = (if (decide (now < t) || decide (t < now - window)) = true then (16, 0) else if n ≠ Pl.nonceS secret t then (18, 1) else if s ≠ Pl.certS ⟨n, t, ky, rf, o, nw, s⟩ then (18, 2) else if xs.contains n = true then (7, 0) else if xs.length = 40 then (14, 0) else (0, 0)) by rw [← hF1]; simp only [Pl.pushF]; rw [if_pos (by rw [hF]), if_pos hd, if_pos hk, if_pos (by rw [h1, h2]; rfl), if_pos hu])
  clear hF1 hV2
  have ht := (Pl.certB_true hB).2.1
  simp only at ht
  have HG := Lib.hid hF
  have HV := Lib.hid (show Pl.certV ⟨n, t, ky, rf, o, nw, s⟩ = ⟨n, t, ky, rf, o, nw, Pl.certS ⟨n, t, ky, rf, o, nw, s⟩⟩ by rw [Pl.certV, if_pos (by rw [hF])]; rfl)
  have HN := Lib.hid (show Pl.nonceF secret t = (0, 0) by rw [Pl.nonceF, if_pos hk, if_pos ht])
  have HM := Lib.hid (show Pl.nonceV secret t = Pl.nonceS secret t by rw [Pl.nonceV, HN.out]; rfl)
  obtain ⟨NS, hNS⟩ : ∃ x, Pl.nonceS secret t = x := ⟨_, rfl⟩
  obtain ⟨SG, hSG⟩ : ∃ x, Pl.certS ⟨n, t, ky, rf, o, nw, s⟩ = x := ⟨_, rfl⟩
  have hNS0 := hNS; have hSG0 := hSG
  rw [hNS] at HM EZ
  rw [hSG] at HV EZ
  have HU := Lib.hid hu
  have hlen := hus.len
  have HP := Lib.hid hus.pairwise
  have ht' := Pl.isTimeB_true.1 ht
  have h1' := Pl.isTimeB_true.1 h1
  have h2' := Pl.isTimeB_true.1 h2
  have ew : IntKind.i64.wrap (now - window) = now - window := IntWalk.i64_in _ (by omega)
  have HI := Lib.hid (Pl.insS_eq hus.pairwise n)
  have hkle : xs.countP (fun x => decide (x < n)) ≤ xs.length := List.countP_le_length
  obtain ⟨K, hK⟩ : ∃ K, xs.countP (fun x => decide (x < n)) = K := ⟨_, rfl⟩
  rw [hK] at HI hkle
  have HK := Lib.hid hK
  obtain ⟨IS, hIS⟩ : ∃ b, xs.contains n = b := ⟨_, rfl⟩
  rw [hIS] at EZ
  have hIS0 := hIS
  have HIS := Lib.hid hIS
  clear hF hB hu hus hNS hSG ht' h1' h2' hK hIS
  have E := Lib.hid (show F1 = (16, 0) by rw [EZ.out, if_pos (by simp [c1])])
  clear EZ
  have E2 := Lib.hid (EV.out (by rw [E.out]; decide))
  clear hNS0 hSG0 hIS0
  go_enter Try.func26, Try.ntmps26
  go_wp2_with (first | (go_at_call 52; refine (isDigest_any _ _).mono ?_; rintro e w' ⟨rfl, rfl⟩) | (go_at_call 45; refine (isKey_any _ _).mono ?_; rintro e w' ⟨rfl, rfl⟩) | (go_at_call 46; refine (isTime_any _ _).mono ?_; rintro e w' ⟨rfl, rfl⟩))
  refine (Certify_any ⟨n, t, ky, rf, o, nw, s⟩ _).mono ?_
  rw [HG.out, HV.out]
  rintro e w1 ⟨rfl, hb1⟩
  unfold certCells
  simp only
  have B1 : Below w.heap.size w w1 := bcall (by go_grown) hb1 (by go_size)
  have s1 := B1.size
  have q1 : w.heap.size + 2 ≤ w1.heap.size := by have h := hb1.size; first | omega | (simp at h; omega)
  have bah := (Box2.new (w.alloc (.cells #[.int .i64 n, .int .i64 t, .int .i64 ky, .string rf, .int .i64 o, .int .i64 nw, .int .i64 s] 23)) (.int .i64 0) (.int .i64 0) 26).below hb1 (by go_size)
  simp only [World.size_alloc] at bah
  obtain ⟨ba0, ba1, baf, bag, bal⟩ := bah
  have AB := ((Blk.new w [.int .i64 n, .int .i64 t, .int .i64 ky, .string rf, .int .i64 o, .int .i64 nw, .int .i64 s] 23 (g := w.heap.size) (by go_size)).alloc (.cells #[(.int .i64 0), (.int .i64 0)] 26)).below hb1 (by go_size)
  have A0 := AB.c 0 _ rfl
  have A1 := AB.c 1 _ rfl
  have A2 := AB.c 2 _ rfl
  have A3 := AB.c 3 _ rfl
  have A4 := AB.c 4 _ rfl
  have A5 := AB.c 5 _ rfl
  have A6 := AB.c 6 _ rfl
  have Af0 := AB.f 0 (Nat.le_of_ble_eq_true rfl)
  have Af1 := AB.f 1 (Nat.le_of_ble_eq_true rfl)
  have Af2 := AB.f 2 (Nat.le_of_ble_eq_true rfl)
  have Af3 := AB.f 3 (Nat.le_of_ble_eq_true rfl)
  have Af4 := AB.f 4 (Nat.le_of_ble_eq_true rfl)
  have Af5 := AB.f 5 (Nat.le_of_ble_eq_true rfl)
  have Af6 := AB.f 6 (Nat.le_of_ble_eq_true rfl)
  have Al := AB.lt
  replace hs := (hs.below (by go_grown) (Nat.le_refl _)).below hb1 (Nat.le_refl _)
  clear hb1
  go_wp2_with (first | (go_at_call 52; refine (isDigest_any _ _).mono ?_; rintro e w' ⟨rfl, rfl⟩) | (go_at_call 45; refine (isKey_any _ _).mono ?_; rintro e w' ⟨rfl, rfl⟩) | (go_at_call 46; refine (isTime_any _ _).mono ?_; rintro e w' ⟨rfl, rfl⟩))
  refine (checkUsed_any xs _ _ _ (hs.below (by go_grown) (Nat.le_refl _)) hm).mono ?_
  rw [HU.out]
  rintro e w2 ⟨rfl, hb2⟩
  have B2 : Below w.heap.size w w2 := bcall (by go_grown) hb2 (by go_size)
  have s2 := B2.size
  have q2 : w1.heap.size + 2 ≤ w2.heap.size := by have h := hb2.size; first | omega | (simp at h; omega)
  obtain ⟨ba0, ba1, baf, bag, bal⟩ := (((Box2.mk ba0 ba1 baf bag bal).alloc (.cells #[.int .i64 n, .int .i64 t, .int .i64 ky, .string rf, .int .i64 o, .int .i64 nw, .int .i64 SG] 23)).alloc (.cells #[(.int .i64 0), (.int .i64 0)] 26)).below hb2 (by go_size)
  have bbh := (Box2.new (w1.alloc (.cells #[.int .i64 n, .int .i64 t, .int .i64 ky, .string rf, .int .i64 o, .int .i64 nw, .int .i64 SG] 23)) (.int .i64 0) (.int .i64 0) 26).below hb2 (by go_size)
  simp only [World.size_alloc] at bbh
  obtain ⟨bb0, bb1, bbf, bbg, bbl⟩ := bbh
  clear A0 A1 A2 A3 A4 A5 A6 Af0 Af1 Af2 Af3 Af4 Af5 Af6 Al
  replace AB := ((AB.alloc (.cells #[.int .i64 n, .int .i64 t, .int .i64 ky, .string rf, .int .i64 o, .int .i64 nw, .int .i64 SG] 23)).alloc (.cells #[(.int .i64 0), (.int .i64 0)] 26)).below hb2 (by have h := AB.lt; go_size)
  have A0 := AB.c 0 _ rfl
  have A1 := AB.c 1 _ rfl
  have A2 := AB.c 2 _ rfl
  have A3 := AB.c 3 _ rfl
  have A4 := AB.c 4 _ rfl
  have A5 := AB.c 5 _ rfl
  have A6 := AB.c 6 _ rfl
  have Af0 := AB.f 0 (Nat.le_of_ble_eq_true rfl)
  have Af1 := AB.f 1 (Nat.le_of_ble_eq_true rfl)
  have Af2 := AB.f 2 (Nat.le_of_ble_eq_true rfl)
  have Af3 := AB.f 3 (Nat.le_of_ble_eq_true rfl)
  have Af4 := AB.f 4 (Nat.le_of_ble_eq_true rfl)
  have Af5 := AB.f 5 (Nat.le_of_ble_eq_true rfl)
  have Af6 := AB.f 6 (Nat.le_of_ble_eq_true rfl)
  have Al := AB.lt
  have ZB := ((Blk.new w1 [.int .i64 n, .int .i64 t, .int .i64 ky, .string rf, .int .i64 o, .int .i64 nw, .int .i64 SG] 23 (g := w1.heap.size) (by go_size)).alloc (.cells #[(.int .i64 0), (.int .i64 0)] 26)).below hb2 (by go_size)
  have Z0 := ZB.c 0 _ rfl
  have Z1 := ZB.c 1 _ rfl
  have Z2 := ZB.c 2 _ rfl
  have Z3 := ZB.c 3 _ rfl
  have Z4 := ZB.c 4 _ rfl
  have Z5 := ZB.c 5 _ rfl
  have Z6 := ZB.c 6 _ rfl
  have Zf0 := ZB.f 0 (Nat.le_of_ble_eq_true rfl)
  have Zf1 := ZB.f 1 (Nat.le_of_ble_eq_true rfl)
  have Zf2 := ZB.f 2 (Nat.le_of_ble_eq_true rfl)
  have Zf3 := ZB.f 3 (Nat.le_of_ble_eq_true rfl)
  have Zf4 := ZB.f 4 (Nat.le_of_ble_eq_true rfl)
  have Zf5 := ZB.f 5 (Nat.le_of_ble_eq_true rfl)
  have Zf6 := ZB.f 6 (Nat.le_of_ble_eq_true rfl)
  have Zl := ZB.lt
  replace hs := (hs.below (by go_grown) (Nat.le_refl _)).below hb2 (Nat.le_refl _)
  clear hb2
  go_wp2_with fail
  refine (Nonce_any secret t _).mono ?_
  rw [HN.out, HM.out]
  rintro e w3 ⟨rfl, hb3⟩
  have B3 : Below w.heap.size w w3 := bcall (by go_grown) hb3 (by go_size)
  have s3 := B3.size
  have q3 : w2.heap.size ≤ w3.heap.size := by have h := hb3.size; first | omega | (simp at h; omega)
  obtain ⟨ba0, ba1, baf, bag, bal⟩ := (Box2.mk ba0 ba1 baf bag bal).below hb3 (by go_size)
  obtain ⟨bb0, bb1, bbf, bbg, bbl⟩ := (Box2.mk bb0 bb1 bbf bbg bbl).below hb3 (by go_size)
  clear A0 A1 A2 A3 A4 A5 A6 Af0 Af1 Af2 Af3 Af4 Af5 Af6 Al
  replace AB := AB.below hb3 (by have h := AB.lt; go_size)
  have A0 := AB.c 0 _ rfl
  have A1 := AB.c 1 _ rfl
  have A2 := AB.c 2 _ rfl
  have A3 := AB.c 3 _ rfl
  have A4 := AB.c 4 _ rfl
  have A5 := AB.c 5 _ rfl
  have A6 := AB.c 6 _ rfl
  have Af0 := AB.f 0 (Nat.le_of_ble_eq_true rfl)
  have Af1 := AB.f 1 (Nat.le_of_ble_eq_true rfl)
  have Af2 := AB.f 2 (Nat.le_of_ble_eq_true rfl)
  have Af3 := AB.f 3 (Nat.le_of_ble_eq_true rfl)
  have Af4 := AB.f 4 (Nat.le_of_ble_eq_true rfl)
  have Af5 := AB.f 5 (Nat.le_of_ble_eq_true rfl)
  have Af6 := AB.f 6 (Nat.le_of_ble_eq_true rfl)
  have Al := AB.lt
  clear Z0 Z1 Z2 Z3 Z4 Z5 Z6 Zf0 Zf1 Zf2 Zf3 Zf4 Zf5 Zf6 Zl
  replace ZB := ZB.below hb3 (by have h := ZB.lt; go_size)
  have Z0 := ZB.c 0 _ rfl
  have Z1 := ZB.c 1 _ rfl
  have Z2 := ZB.c 2 _ rfl
  have Z3 := ZB.c 3 _ rfl
  have Z4 := ZB.c 4 _ rfl
  have Z5 := ZB.c 5 _ rfl
  have Z6 := ZB.c 6 _ rfl
  have Zf0 := ZB.f 0 (Nat.le_of_ble_eq_true rfl)
  have Zf1 := ZB.f 1 (Nat.le_of_ble_eq_true rfl)
  have Zf2 := ZB.f 2 (Nat.le_of_ble_eq_true rfl)
  have Zf3 := ZB.f 3 (Nat.le_of_ble_eq_true rfl)
  have Zf4 := ZB.f 4 (Nat.le_of_ble_eq_true rfl)
  have Zf5 := ZB.f 5 (Nat.le_of_ble_eq_true rfl)
  have Zf6 := ZB.f 6 (Nat.le_of_ble_eq_true rfl)
  have Zl := ZB.lt
  replace hs := hs.below hb3 (Nat.le_refl _)
  clear hb3
  go_wp2_with fail
  refine (BinSearch_any xs n _ _ _ (hs.below (by go_grown) (Nat.le_refl _)) (by omega) HP.out).mono ?_
  rw [HK.out, HIS.out]
  rintro e w4 ⟨rfl, hb4⟩
  have B4 : Below w.heap.size w w4 := bcall (by go_grown) hb4 (by go_size)
  have s4 := B4.size
  have q4 : w3.heap.size + 1 ≤ w4.heap.size := by have h := hb4.size; first | omega | (simp at h; omega)
  obtain ⟨ba0, ba1, baf, bag, bal⟩ := ((Box2.mk ba0 ba1 baf bag bal).alloc (.cells #[(.int .i64 0), (.int .i64 0)] 26)).below hb4 (by go_size)
  obtain ⟨bb0, bb1, bbf, bbg, bbl⟩ := ((Box2.mk bb0 bb1 bbf bbg bbl).alloc (.cells #[(.int .i64 0), (.int .i64 0)] 26)).below hb4 (by go_size)
  obtain ⟨bc0, bc1, bcf, bcg, bcl⟩ := (Box2.new w3 (.int .i64 0) (.int .i64 0) 26).below hb4 (by go_size)
  clear A0 A1 A2 A3 A4 A5 A6 Af0 Af1 Af2 Af3 Af4 Af5 Af6 Al
  replace AB := (AB.alloc (.cells #[(.int .i64 0), (.int .i64 0)] 26)).below hb4 (by have h := AB.lt; go_size)
  have A0 := AB.c 0 _ rfl
  have A1 := AB.c 1 _ rfl
  have A2 := AB.c 2 _ rfl
  have A3 := AB.c 3 _ rfl
  have A4 := AB.c 4 _ rfl
  have A5 := AB.c 5 _ rfl
  have A6 := AB.c 6 _ rfl
  have Af0 := AB.f 0 (Nat.le_of_ble_eq_true rfl)
  have Af1 := AB.f 1 (Nat.le_of_ble_eq_true rfl)
  have Af2 := AB.f 2 (Nat.le_of_ble_eq_true rfl)
  have Af3 := AB.f 3 (Nat.le_of_ble_eq_true rfl)
  have Af4 := AB.f 4 (Nat.le_of_ble_eq_true rfl)
  have Af5 := AB.f 5 (Nat.le_of_ble_eq_true rfl)
  have Af6 := AB.f 6 (Nat.le_of_ble_eq_true rfl)
  have Al := AB.lt
  clear Z0 Z1 Z2 Z3 Z4 Z5 Z6 Zf0 Zf1 Zf2 Zf3 Zf4 Zf5 Zf6 Zl
  replace ZB := (ZB.alloc (.cells #[(.int .i64 0), (.int .i64 0)] 26)).below hb4 (by have h := ZB.lt; go_size)
  have Z0 := ZB.c 0 _ rfl
  have Z1 := ZB.c 1 _ rfl
  have Z2 := ZB.c 2 _ rfl
  have Z3 := ZB.c 3 _ rfl
  have Z4 := ZB.c 4 _ rfl
  have Z5 := ZB.c 5 _ rfl
  have Z6 := ZB.c 6 _ rfl
  have Zf0 := ZB.f 0 (Nat.le_of_ble_eq_true rfl)
  have Zf1 := ZB.f 1 (Nat.le_of_ble_eq_true rfl)
  have Zf2 := ZB.f 2 (Nat.le_of_ble_eq_true rfl)
  have Zf3 := ZB.f 3 (Nat.le_of_ble_eq_true rfl)
  have Zf4 := ZB.f 4 (Nat.le_of_ble_eq_true rfl)
  have Zf5 := ZB.f 5 (Nat.le_of_ble_eq_true rfl)
  have Zf6 := ZB.f 6 (Nat.le_of_ble_eq_true rfl)
  have Zl := ZB.lt
  replace hs := (hs.below (by go_grown) (Nat.le_refl _)).below hb4 (Nat.le_refl _)
  clear hb4
  go_wp2_with fail
  refine bodyPost_ret (v := .tuple #[.slice none 0 0, .agg #[.int .i64 (16), .int .i64 (0)]]) (by simp [results, Try.results26, go_sem, ba0, ba1]) rfl (RIntsF.bad E.out E2.out (by go_grown))
set_option maxRecDepth 100000 in
set_option maxHeartbeats 4000000 in
theorem Check_old (secret now window : Int) (xs : List Int) (n t ky : Int) (rf : ByteArray) (o nw s : Int) (oa : Option Addr) (cap : Nat) (w : World) (hs : Sl w oa xs.length cap 1 (intVals xs)) (hm : xs.length ≤ 9223372036854775807)
    (hF : Pl.certF ⟨n, t, ky, rf, o, nw, s⟩ = (0, 0)) (hd : Pl.isDigestB s = true) (hk : Pl.isKeyB secret = true) (h1 : Pl.isTimeB now = true) (h2 : Pl.isTimeB window = true) (hB : Pl.certB ⟨n, t, ky, rf, o, nw, s⟩ = true) (hu : Pl.usedC xs = 0) (hus : Pl.Used xs)
    (c1 : decide (now < t) = false) (c2 : decide (t < now - window) = true) :
    Calls Try.prog 26 #[.int .i64 secret, .int .i64 now, .int .i64 window, .slice oa xs.length cap, .agg (certCells ⟨n, t, ky, rf, o, nw, s⟩).toArray] w (RIntsF 3 (Pl.pushV secret now window xs ⟨n, t, ky, rf, o, nw, s⟩) (Pl.pushF secret now window xs ⟨n, t, ky, rf, o, nw, s⟩) w) := by
  unfold certCells
  simp only
  obtain ⟨F1, hF1⟩ : ∃ F, Pl.pushF secret now window xs ⟨n, t, ky, rf, o, nw, s⟩ = F := ⟨_, rfl⟩
  obtain ⟨V1, hV1⟩ : ∃ V, Pl.pushV secret now window xs ⟨n, t, ky, rf, o, nw, s⟩ = V := ⟨_, rfl⟩
  have hV2 := hV1
  unfold Pl.pushV at hV2
  rw [hF1] at hV2
  rw [hF1, hV1]
  clear hV1
  have EV := Lib.hid (show F1.1 ≠ 0 → V1 = [] from fun h => by rw [← hV2, if_neg h])
  have EW := Lib.hid (show F1.1 = 0 → V1 = Pl.insS xs n from fun h => by rw [← hV2, if_pos h])
  have EZ := Lib.hid (show F1 = (if (decide (now < t) || decide (t < now - window)) = true then (16, 0) else if n ≠ Pl.nonceS secret t then (18, 1) else if s ≠ Pl.certS ⟨n, t, ky, rf, o, nw, s⟩ then (18, 2) else if xs.contains n = true then (7, 0) else if xs.length = 40 then (14, 0) else (0, 0)) by rw [← hF1]; simp only [Pl.pushF]; rw [if_pos (by rw [hF]), if_pos hd, if_pos hk, if_pos (by rw [h1, h2]; rfl), if_pos hu])
  clear hF1 hV2
  have ht := (Pl.certB_true hB).2.1
  simp only at ht
  have HG := Lib.hid hF
  have HV := Lib.hid (show Pl.certV ⟨n, t, ky, rf, o, nw, s⟩ = ⟨n, t, ky, rf, o, nw, Pl.certS ⟨n, t, ky, rf, o, nw, s⟩⟩ by rw [Pl.certV, if_pos (by rw [hF])]; rfl)
  have HN := Lib.hid (show Pl.nonceF secret t = (0, 0) by rw [Pl.nonceF, if_pos hk, if_pos ht])
  have HM := Lib.hid (show Pl.nonceV secret t = Pl.nonceS secret t by rw [Pl.nonceV, HN.out]; rfl)
  obtain ⟨NS, hNS⟩ : ∃ x, Pl.nonceS secret t = x := ⟨_, rfl⟩
  obtain ⟨SG, hSG⟩ : ∃ x, Pl.certS ⟨n, t, ky, rf, o, nw, s⟩ = x := ⟨_, rfl⟩
  have hNS0 := hNS; have hSG0 := hSG
  rw [hNS] at HM EZ
  rw [hSG] at HV EZ
  have HU := Lib.hid hu
  have hlen := hus.len
  have HP := Lib.hid hus.pairwise
  have ht' := Pl.isTimeB_true.1 ht
  have h1' := Pl.isTimeB_true.1 h1
  have h2' := Pl.isTimeB_true.1 h2
  have ew : IntKind.i64.wrap (now - window) = now - window := IntWalk.i64_in _ (by omega)
  have HI := Lib.hid (Pl.insS_eq hus.pairwise n)
  have hkle : xs.countP (fun x => decide (x < n)) ≤ xs.length := List.countP_le_length
  obtain ⟨K, hK⟩ : ∃ K, xs.countP (fun x => decide (x < n)) = K := ⟨_, rfl⟩
  rw [hK] at HI hkle
  have HK := Lib.hid hK
  obtain ⟨IS, hIS⟩ : ∃ b, xs.contains n = b := ⟨_, rfl⟩
  rw [hIS] at EZ
  have hIS0 := hIS
  have HIS := Lib.hid hIS
  clear hF hB hu hus hNS hSG ht' h1' h2' hK hIS
  have E := Lib.hid (show F1 = (16, 0) by rw [EZ.out, if_pos (by simp [c2])])
  clear EZ
  have E2 := Lib.hid (EV.out (by rw [E.out]; decide))
  clear hNS0 hSG0 hIS0
  go_enter Try.func26, Try.ntmps26
  go_wp2_with (first | (go_at_call 52; refine (isDigest_any _ _).mono ?_; rintro e w' ⟨rfl, rfl⟩) | (go_at_call 45; refine (isKey_any _ _).mono ?_; rintro e w' ⟨rfl, rfl⟩) | (go_at_call 46; refine (isTime_any _ _).mono ?_; rintro e w' ⟨rfl, rfl⟩))
  refine (Certify_any ⟨n, t, ky, rf, o, nw, s⟩ _).mono ?_
  rw [HG.out, HV.out]
  rintro e w1 ⟨rfl, hb1⟩
  unfold certCells
  simp only
  have B1 : Below w.heap.size w w1 := bcall (by go_grown) hb1 (by go_size)
  have s1 := B1.size
  have q1 : w.heap.size + 2 ≤ w1.heap.size := by have h := hb1.size; first | omega | (simp at h; omega)
  have bah := (Box2.new (w.alloc (.cells #[.int .i64 n, .int .i64 t, .int .i64 ky, .string rf, .int .i64 o, .int .i64 nw, .int .i64 s] 23)) (.int .i64 0) (.int .i64 0) 26).below hb1 (by go_size)
  simp only [World.size_alloc] at bah
  obtain ⟨ba0, ba1, baf, bag, bal⟩ := bah
  have AB := ((Blk.new w [.int .i64 n, .int .i64 t, .int .i64 ky, .string rf, .int .i64 o, .int .i64 nw, .int .i64 s] 23 (g := w.heap.size) (by go_size)).alloc (.cells #[(.int .i64 0), (.int .i64 0)] 26)).below hb1 (by go_size)
  have A0 := AB.c 0 _ rfl
  have A1 := AB.c 1 _ rfl
  have A2 := AB.c 2 _ rfl
  have A3 := AB.c 3 _ rfl
  have A4 := AB.c 4 _ rfl
  have A5 := AB.c 5 _ rfl
  have A6 := AB.c 6 _ rfl
  have Af0 := AB.f 0 (Nat.le_of_ble_eq_true rfl)
  have Af1 := AB.f 1 (Nat.le_of_ble_eq_true rfl)
  have Af2 := AB.f 2 (Nat.le_of_ble_eq_true rfl)
  have Af3 := AB.f 3 (Nat.le_of_ble_eq_true rfl)
  have Af4 := AB.f 4 (Nat.le_of_ble_eq_true rfl)
  have Af5 := AB.f 5 (Nat.le_of_ble_eq_true rfl)
  have Af6 := AB.f 6 (Nat.le_of_ble_eq_true rfl)
  have Al := AB.lt
  replace hs := (hs.below (by go_grown) (Nat.le_refl _)).below hb1 (Nat.le_refl _)
  clear hb1
  go_wp2_with (first | (go_at_call 52; refine (isDigest_any _ _).mono ?_; rintro e w' ⟨rfl, rfl⟩) | (go_at_call 45; refine (isKey_any _ _).mono ?_; rintro e w' ⟨rfl, rfl⟩) | (go_at_call 46; refine (isTime_any _ _).mono ?_; rintro e w' ⟨rfl, rfl⟩))
  refine (checkUsed_any xs _ _ _ (hs.below (by go_grown) (Nat.le_refl _)) hm).mono ?_
  rw [HU.out]
  rintro e w2 ⟨rfl, hb2⟩
  have B2 : Below w.heap.size w w2 := bcall (by go_grown) hb2 (by go_size)
  have s2 := B2.size
  have q2 : w1.heap.size + 2 ≤ w2.heap.size := by have h := hb2.size; first | omega | (simp at h; omega)
  obtain ⟨ba0, ba1, baf, bag, bal⟩ := (((Box2.mk ba0 ba1 baf bag bal).alloc (.cells #[.int .i64 n, .int .i64 t, .int .i64 ky, .string rf, .int .i64 o, .int .i64 nw, .int .i64 SG] 23)).alloc (.cells #[(.int .i64 0), (.int .i64 0)] 26)).below hb2 (by go_size)
  have bbh := (Box2.new (w1.alloc (.cells #[.int .i64 n, .int .i64 t, .int .i64 ky, .string rf, .int .i64 o, .int .i64 nw, .int .i64 SG] 23)) (.int .i64 0) (.int .i64 0) 26).below hb2 (by go_size)
  simp only [World.size_alloc] at bbh
  obtain ⟨bb0, bb1, bbf, bbg, bbl⟩ := bbh
  clear A0 A1 A2 A3 A4 A5 A6 Af0 Af1 Af2 Af3 Af4 Af5 Af6 Al
  replace AB := ((AB.alloc (.cells #[.int .i64 n, .int .i64 t, .int .i64 ky, .string rf, .int .i64 o, .int .i64 nw, .int .i64 SG] 23)).alloc (.cells #[(.int .i64 0), (.int .i64 0)] 26)).below hb2 (by have h := AB.lt; go_size)
  have A0 := AB.c 0 _ rfl
  have A1 := AB.c 1 _ rfl
  have A2 := AB.c 2 _ rfl
  have A3 := AB.c 3 _ rfl
  have A4 := AB.c 4 _ rfl
  have A5 := AB.c 5 _ rfl
  have A6 := AB.c 6 _ rfl
  have Af0 := AB.f 0 (Nat.le_of_ble_eq_true rfl)
  have Af1 := AB.f 1 (Nat.le_of_ble_eq_true rfl)
  have Af2 := AB.f 2 (Nat.le_of_ble_eq_true rfl)
  have Af3 := AB.f 3 (Nat.le_of_ble_eq_true rfl)
  have Af4 := AB.f 4 (Nat.le_of_ble_eq_true rfl)
  have Af5 := AB.f 5 (Nat.le_of_ble_eq_true rfl)
  have Af6 := AB.f 6 (Nat.le_of_ble_eq_true rfl)
  have Al := AB.lt
  have ZB := ((Blk.new w1 [.int .i64 n, .int .i64 t, .int .i64 ky, .string rf, .int .i64 o, .int .i64 nw, .int .i64 SG] 23 (g := w1.heap.size) (by go_size)).alloc (.cells #[(.int .i64 0), (.int .i64 0)] 26)).below hb2 (by go_size)
  have Z0 := ZB.c 0 _ rfl
  have Z1 := ZB.c 1 _ rfl
  have Z2 := ZB.c 2 _ rfl
  have Z3 := ZB.c 3 _ rfl
  have Z4 := ZB.c 4 _ rfl
  have Z5 := ZB.c 5 _ rfl
  have Z6 := ZB.c 6 _ rfl
  have Zf0 := ZB.f 0 (Nat.le_of_ble_eq_true rfl)
  have Zf1 := ZB.f 1 (Nat.le_of_ble_eq_true rfl)
  have Zf2 := ZB.f 2 (Nat.le_of_ble_eq_true rfl)
  have Zf3 := ZB.f 3 (Nat.le_of_ble_eq_true rfl)
  have Zf4 := ZB.f 4 (Nat.le_of_ble_eq_true rfl)
  have Zf5 := ZB.f 5 (Nat.le_of_ble_eq_true rfl)
  have Zf6 := ZB.f 6 (Nat.le_of_ble_eq_true rfl)
  have Zl := ZB.lt
  replace hs := (hs.below (by go_grown) (Nat.le_refl _)).below hb2 (Nat.le_refl _)
  clear hb2
  go_wp2_with fail
  refine (Nonce_any secret t _).mono ?_
  rw [HN.out, HM.out]
  rintro e w3 ⟨rfl, hb3⟩
  have B3 : Below w.heap.size w w3 := bcall (by go_grown) hb3 (by go_size)
  have s3 := B3.size
  have q3 : w2.heap.size ≤ w3.heap.size := by have h := hb3.size; first | omega | (simp at h; omega)
  obtain ⟨ba0, ba1, baf, bag, bal⟩ := (Box2.mk ba0 ba1 baf bag bal).below hb3 (by go_size)
  obtain ⟨bb0, bb1, bbf, bbg, bbl⟩ := (Box2.mk bb0 bb1 bbf bbg bbl).below hb3 (by go_size)
  clear A0 A1 A2 A3 A4 A5 A6 Af0 Af1 Af2 Af3 Af4 Af5 Af6 Al
  replace AB := AB.below hb3 (by have h := AB.lt; go_size)
  have A0 := AB.c 0 _ rfl
  have A1 := AB.c 1 _ rfl
  have A2 := AB.c 2 _ rfl
  have A3 := AB.c 3 _ rfl
  have A4 := AB.c 4 _ rfl
  have A5 := AB.c 5 _ rfl
  have A6 := AB.c 6 _ rfl
  have Af0 := AB.f 0 (Nat.le_of_ble_eq_true rfl)
  have Af1 := AB.f 1 (Nat.le_of_ble_eq_true rfl)
  have Af2 := AB.f 2 (Nat.le_of_ble_eq_true rfl)
  have Af3 := AB.f 3 (Nat.le_of_ble_eq_true rfl)
  have Af4 := AB.f 4 (Nat.le_of_ble_eq_true rfl)
  have Af5 := AB.f 5 (Nat.le_of_ble_eq_true rfl)
  have Af6 := AB.f 6 (Nat.le_of_ble_eq_true rfl)
  have Al := AB.lt
  clear Z0 Z1 Z2 Z3 Z4 Z5 Z6 Zf0 Zf1 Zf2 Zf3 Zf4 Zf5 Zf6 Zl
  replace ZB := ZB.below hb3 (by have h := ZB.lt; go_size)
  have Z0 := ZB.c 0 _ rfl
  have Z1 := ZB.c 1 _ rfl
  have Z2 := ZB.c 2 _ rfl
  have Z3 := ZB.c 3 _ rfl
  have Z4 := ZB.c 4 _ rfl
  have Z5 := ZB.c 5 _ rfl
  have Z6 := ZB.c 6 _ rfl
  have Zf0 := ZB.f 0 (Nat.le_of_ble_eq_true rfl)
  have Zf1 := ZB.f 1 (Nat.le_of_ble_eq_true rfl)
  have Zf2 := ZB.f 2 (Nat.le_of_ble_eq_true rfl)
  have Zf3 := ZB.f 3 (Nat.le_of_ble_eq_true rfl)
  have Zf4 := ZB.f 4 (Nat.le_of_ble_eq_true rfl)
  have Zf5 := ZB.f 5 (Nat.le_of_ble_eq_true rfl)
  have Zf6 := ZB.f 6 (Nat.le_of_ble_eq_true rfl)
  have Zl := ZB.lt
  replace hs := hs.below hb3 (Nat.le_refl _)
  clear hb3
  go_wp2_with fail
  refine (BinSearch_any xs n _ _ _ (hs.below (by go_grown) (Nat.le_refl _)) (by omega) HP.out).mono ?_
  rw [HK.out, HIS.out]
  rintro e w4 ⟨rfl, hb4⟩
  have B4 : Below w.heap.size w w4 := bcall (by go_grown) hb4 (by go_size)
  have s4 := B4.size
  have q4 : w3.heap.size + 1 ≤ w4.heap.size := by have h := hb4.size; first | omega | (simp at h; omega)
  obtain ⟨ba0, ba1, baf, bag, bal⟩ := ((Box2.mk ba0 ba1 baf bag bal).alloc (.cells #[(.int .i64 0), (.int .i64 0)] 26)).below hb4 (by go_size)
  obtain ⟨bb0, bb1, bbf, bbg, bbl⟩ := ((Box2.mk bb0 bb1 bbf bbg bbl).alloc (.cells #[(.int .i64 0), (.int .i64 0)] 26)).below hb4 (by go_size)
  obtain ⟨bc0, bc1, bcf, bcg, bcl⟩ := (Box2.new w3 (.int .i64 0) (.int .i64 0) 26).below hb4 (by go_size)
  clear A0 A1 A2 A3 A4 A5 A6 Af0 Af1 Af2 Af3 Af4 Af5 Af6 Al
  replace AB := (AB.alloc (.cells #[(.int .i64 0), (.int .i64 0)] 26)).below hb4 (by have h := AB.lt; go_size)
  have A0 := AB.c 0 _ rfl
  have A1 := AB.c 1 _ rfl
  have A2 := AB.c 2 _ rfl
  have A3 := AB.c 3 _ rfl
  have A4 := AB.c 4 _ rfl
  have A5 := AB.c 5 _ rfl
  have A6 := AB.c 6 _ rfl
  have Af0 := AB.f 0 (Nat.le_of_ble_eq_true rfl)
  have Af1 := AB.f 1 (Nat.le_of_ble_eq_true rfl)
  have Af2 := AB.f 2 (Nat.le_of_ble_eq_true rfl)
  have Af3 := AB.f 3 (Nat.le_of_ble_eq_true rfl)
  have Af4 := AB.f 4 (Nat.le_of_ble_eq_true rfl)
  have Af5 := AB.f 5 (Nat.le_of_ble_eq_true rfl)
  have Af6 := AB.f 6 (Nat.le_of_ble_eq_true rfl)
  have Al := AB.lt
  clear Z0 Z1 Z2 Z3 Z4 Z5 Z6 Zf0 Zf1 Zf2 Zf3 Zf4 Zf5 Zf6 Zl
  replace ZB := (ZB.alloc (.cells #[(.int .i64 0), (.int .i64 0)] 26)).below hb4 (by have h := ZB.lt; go_size)
  have Z0 := ZB.c 0 _ rfl
  have Z1 := ZB.c 1 _ rfl
  have Z2 := ZB.c 2 _ rfl
  have Z3 := ZB.c 3 _ rfl
  have Z4 := ZB.c 4 _ rfl
  have Z5 := ZB.c 5 _ rfl
  have Z6 := ZB.c 6 _ rfl
  have Zf0 := ZB.f 0 (Nat.le_of_ble_eq_true rfl)
  have Zf1 := ZB.f 1 (Nat.le_of_ble_eq_true rfl)
  have Zf2 := ZB.f 2 (Nat.le_of_ble_eq_true rfl)
  have Zf3 := ZB.f 3 (Nat.le_of_ble_eq_true rfl)
  have Zf4 := ZB.f 4 (Nat.le_of_ble_eq_true rfl)
  have Zf5 := ZB.f 5 (Nat.le_of_ble_eq_true rfl)
  have Zf6 := ZB.f 6 (Nat.le_of_ble_eq_true rfl)
  have Zl := ZB.lt
  replace hs := (hs.below (by go_grown) (Nat.le_refl _)).below hb4 (Nat.le_refl _)
  clear hb4
  go_wp2_with fail
  refine bodyPost_ret (v := .tuple #[.slice none 0 0, .agg #[.int .i64 (16), .int .i64 (0)]]) (by simp [results, Try.results26, go_sem, ba0, ba1]) rfl (RIntsF.bad E.out E2.out (by go_grown))
set_option maxRecDepth 100000 in
set_option maxHeartbeats 4000000 in
theorem Check_nonce (secret now window : Int) (xs : List Int) (n t ky : Int) (rf : ByteArray) (o nw s : Int) (oa : Option Addr) (cap : Nat) (w : World) (hs : Sl w oa xs.length cap 1 (intVals xs)) (hm : xs.length ≤ 9223372036854775807)
    (hF : Pl.certF ⟨n, t, ky, rf, o, nw, s⟩ = (0, 0)) (hd : Pl.isDigestB s = true) (hk : Pl.isKeyB secret = true) (h1 : Pl.isTimeB now = true) (h2 : Pl.isTimeB window = true) (hB : Pl.certB ⟨n, t, ky, rf, o, nw, s⟩ = true) (hu : Pl.usedC xs = 0) (hus : Pl.Used xs)
    (c1 : decide (now < t) = false) (c2 : decide (t < now - window) = false) (c3 : n ≠ Pl.nonceS secret t) :
    Calls Try.prog 26 #[.int .i64 secret, .int .i64 now, .int .i64 window, .slice oa xs.length cap, .agg (certCells ⟨n, t, ky, rf, o, nw, s⟩).toArray] w (RIntsF 3 (Pl.pushV secret now window xs ⟨n, t, ky, rf, o, nw, s⟩) (Pl.pushF secret now window xs ⟨n, t, ky, rf, o, nw, s⟩) w) := by
  unfold certCells
  simp only
  obtain ⟨F1, hF1⟩ : ∃ F, Pl.pushF secret now window xs ⟨n, t, ky, rf, o, nw, s⟩ = F := ⟨_, rfl⟩
  obtain ⟨V1, hV1⟩ : ∃ V, Pl.pushV secret now window xs ⟨n, t, ky, rf, o, nw, s⟩ = V := ⟨_, rfl⟩
  have hV2 := hV1
  unfold Pl.pushV at hV2
  rw [hF1] at hV2
  rw [hF1, hV1]
  clear hV1
  have EV := Lib.hid (show F1.1 ≠ 0 → V1 = [] from fun h => by rw [← hV2, if_neg h])
  have EW := Lib.hid (show F1.1 = 0 → V1 = Pl.insS xs n from fun h => by rw [← hV2, if_pos h])
  have EZ := Lib.hid (show F1 = (if (decide (now < t) || decide (t < now - window)) = true then (16, 0) else if n ≠ Pl.nonceS secret t then (18, 1) else if s ≠ Pl.certS ⟨n, t, ky, rf, o, nw, s⟩ then (18, 2) else if xs.contains n = true then (7, 0) else if xs.length = 40 then (14, 0) else (0, 0)) by rw [← hF1]; simp only [Pl.pushF]; rw [if_pos (by rw [hF]), if_pos hd, if_pos hk, if_pos (by rw [h1, h2]; rfl), if_pos hu])
  clear hF1 hV2
  have ht := (Pl.certB_true hB).2.1
  simp only at ht
  have HG := Lib.hid hF
  have HV := Lib.hid (show Pl.certV ⟨n, t, ky, rf, o, nw, s⟩ = ⟨n, t, ky, rf, o, nw, Pl.certS ⟨n, t, ky, rf, o, nw, s⟩⟩ by rw [Pl.certV, if_pos (by rw [hF])]; rfl)
  have HN := Lib.hid (show Pl.nonceF secret t = (0, 0) by rw [Pl.nonceF, if_pos hk, if_pos ht])
  have HM := Lib.hid (show Pl.nonceV secret t = Pl.nonceS secret t by rw [Pl.nonceV, HN.out]; rfl)
  obtain ⟨NS, hNS⟩ : ∃ x, Pl.nonceS secret t = x := ⟨_, rfl⟩
  obtain ⟨SG, hSG⟩ : ∃ x, Pl.certS ⟨n, t, ky, rf, o, nw, s⟩ = x := ⟨_, rfl⟩
  have hNS0 := hNS; have hSG0 := hSG
  rw [hNS] at HM EZ
  rw [hSG] at HV EZ
  have HU := Lib.hid hu
  have hlen := hus.len
  have HP := Lib.hid hus.pairwise
  have ht' := Pl.isTimeB_true.1 ht
  have h1' := Pl.isTimeB_true.1 h1
  have h2' := Pl.isTimeB_true.1 h2
  have ew : IntKind.i64.wrap (now - window) = now - window := IntWalk.i64_in _ (by omega)
  have HI := Lib.hid (Pl.insS_eq hus.pairwise n)
  have hkle : xs.countP (fun x => decide (x < n)) ≤ xs.length := List.countP_le_length
  obtain ⟨K, hK⟩ : ∃ K, xs.countP (fun x => decide (x < n)) = K := ⟨_, rfl⟩
  rw [hK] at HI hkle
  have HK := Lib.hid hK
  obtain ⟨IS, hIS⟩ : ∃ b, xs.contains n = b := ⟨_, rfl⟩
  rw [hIS] at EZ
  have hIS0 := hIS
  have HIS := Lib.hid hIS
  clear hF hB hu hus hNS hSG ht' h1' h2' hK hIS
  rw [hNS0] at c3
  have E := Lib.hid (show F1 = (18, 1) by rw [EZ.out, if_neg (by simp [c1, c2]), if_pos c3])
  clear EZ
  have E2 := Lib.hid (EV.out (by rw [E.out]; decide))
  have u3 : (n == NS) = false := by simp [c3]
  have u3' : (n != NS) = true := by simp [c3]
  clear c3
  clear hNS0 hSG0 hIS0
  go_enter Try.func26, Try.ntmps26
  go_wp2_with (first | (go_at_call 52; refine (isDigest_any _ _).mono ?_; rintro e w' ⟨rfl, rfl⟩) | (go_at_call 45; refine (isKey_any _ _).mono ?_; rintro e w' ⟨rfl, rfl⟩) | (go_at_call 46; refine (isTime_any _ _).mono ?_; rintro e w' ⟨rfl, rfl⟩))
  refine (Certify_any ⟨n, t, ky, rf, o, nw, s⟩ _).mono ?_
  rw [HG.out, HV.out]
  rintro e w1 ⟨rfl, hb1⟩
  unfold certCells
  simp only
  have B1 : Below w.heap.size w w1 := bcall (by go_grown) hb1 (by go_size)
  have s1 := B1.size
  have q1 : w.heap.size + 2 ≤ w1.heap.size := by have h := hb1.size; first | omega | (simp at h; omega)
  have bah := (Box2.new (w.alloc (.cells #[.int .i64 n, .int .i64 t, .int .i64 ky, .string rf, .int .i64 o, .int .i64 nw, .int .i64 s] 23)) (.int .i64 0) (.int .i64 0) 26).below hb1 (by go_size)
  simp only [World.size_alloc] at bah
  obtain ⟨ba0, ba1, baf, bag, bal⟩ := bah
  have AB := ((Blk.new w [.int .i64 n, .int .i64 t, .int .i64 ky, .string rf, .int .i64 o, .int .i64 nw, .int .i64 s] 23 (g := w.heap.size) (by go_size)).alloc (.cells #[(.int .i64 0), (.int .i64 0)] 26)).below hb1 (by go_size)
  have A0 := AB.c 0 _ rfl
  have A1 := AB.c 1 _ rfl
  have A2 := AB.c 2 _ rfl
  have A3 := AB.c 3 _ rfl
  have A4 := AB.c 4 _ rfl
  have A5 := AB.c 5 _ rfl
  have A6 := AB.c 6 _ rfl
  have Af0 := AB.f 0 (Nat.le_of_ble_eq_true rfl)
  have Af1 := AB.f 1 (Nat.le_of_ble_eq_true rfl)
  have Af2 := AB.f 2 (Nat.le_of_ble_eq_true rfl)
  have Af3 := AB.f 3 (Nat.le_of_ble_eq_true rfl)
  have Af4 := AB.f 4 (Nat.le_of_ble_eq_true rfl)
  have Af5 := AB.f 5 (Nat.le_of_ble_eq_true rfl)
  have Af6 := AB.f 6 (Nat.le_of_ble_eq_true rfl)
  have Al := AB.lt
  replace hs := (hs.below (by go_grown) (Nat.le_refl _)).below hb1 (Nat.le_refl _)
  clear hb1
  go_wp2_with (first | (go_at_call 52; refine (isDigest_any _ _).mono ?_; rintro e w' ⟨rfl, rfl⟩) | (go_at_call 45; refine (isKey_any _ _).mono ?_; rintro e w' ⟨rfl, rfl⟩) | (go_at_call 46; refine (isTime_any _ _).mono ?_; rintro e w' ⟨rfl, rfl⟩))
  refine (checkUsed_any xs _ _ _ (hs.below (by go_grown) (Nat.le_refl _)) hm).mono ?_
  rw [HU.out]
  rintro e w2 ⟨rfl, hb2⟩
  have B2 : Below w.heap.size w w2 := bcall (by go_grown) hb2 (by go_size)
  have s2 := B2.size
  have q2 : w1.heap.size + 2 ≤ w2.heap.size := by have h := hb2.size; first | omega | (simp at h; omega)
  obtain ⟨ba0, ba1, baf, bag, bal⟩ := (((Box2.mk ba0 ba1 baf bag bal).alloc (.cells #[.int .i64 n, .int .i64 t, .int .i64 ky, .string rf, .int .i64 o, .int .i64 nw, .int .i64 SG] 23)).alloc (.cells #[(.int .i64 0), (.int .i64 0)] 26)).below hb2 (by go_size)
  have bbh := (Box2.new (w1.alloc (.cells #[.int .i64 n, .int .i64 t, .int .i64 ky, .string rf, .int .i64 o, .int .i64 nw, .int .i64 SG] 23)) (.int .i64 0) (.int .i64 0) 26).below hb2 (by go_size)
  simp only [World.size_alloc] at bbh
  obtain ⟨bb0, bb1, bbf, bbg, bbl⟩ := bbh
  clear A0 A1 A2 A3 A4 A5 A6 Af0 Af1 Af2 Af3 Af4 Af5 Af6 Al
  replace AB := ((AB.alloc (.cells #[.int .i64 n, .int .i64 t, .int .i64 ky, .string rf, .int .i64 o, .int .i64 nw, .int .i64 SG] 23)).alloc (.cells #[(.int .i64 0), (.int .i64 0)] 26)).below hb2 (by have h := AB.lt; go_size)
  have A0 := AB.c 0 _ rfl
  have A1 := AB.c 1 _ rfl
  have A2 := AB.c 2 _ rfl
  have A3 := AB.c 3 _ rfl
  have A4 := AB.c 4 _ rfl
  have A5 := AB.c 5 _ rfl
  have A6 := AB.c 6 _ rfl
  have Af0 := AB.f 0 (Nat.le_of_ble_eq_true rfl)
  have Af1 := AB.f 1 (Nat.le_of_ble_eq_true rfl)
  have Af2 := AB.f 2 (Nat.le_of_ble_eq_true rfl)
  have Af3 := AB.f 3 (Nat.le_of_ble_eq_true rfl)
  have Af4 := AB.f 4 (Nat.le_of_ble_eq_true rfl)
  have Af5 := AB.f 5 (Nat.le_of_ble_eq_true rfl)
  have Af6 := AB.f 6 (Nat.le_of_ble_eq_true rfl)
  have Al := AB.lt
  have ZB := ((Blk.new w1 [.int .i64 n, .int .i64 t, .int .i64 ky, .string rf, .int .i64 o, .int .i64 nw, .int .i64 SG] 23 (g := w1.heap.size) (by go_size)).alloc (.cells #[(.int .i64 0), (.int .i64 0)] 26)).below hb2 (by go_size)
  have Z0 := ZB.c 0 _ rfl
  have Z1 := ZB.c 1 _ rfl
  have Z2 := ZB.c 2 _ rfl
  have Z3 := ZB.c 3 _ rfl
  have Z4 := ZB.c 4 _ rfl
  have Z5 := ZB.c 5 _ rfl
  have Z6 := ZB.c 6 _ rfl
  have Zf0 := ZB.f 0 (Nat.le_of_ble_eq_true rfl)
  have Zf1 := ZB.f 1 (Nat.le_of_ble_eq_true rfl)
  have Zf2 := ZB.f 2 (Nat.le_of_ble_eq_true rfl)
  have Zf3 := ZB.f 3 (Nat.le_of_ble_eq_true rfl)
  have Zf4 := ZB.f 4 (Nat.le_of_ble_eq_true rfl)
  have Zf5 := ZB.f 5 (Nat.le_of_ble_eq_true rfl)
  have Zf6 := ZB.f 6 (Nat.le_of_ble_eq_true rfl)
  have Zl := ZB.lt
  replace hs := (hs.below (by go_grown) (Nat.le_refl _)).below hb2 (Nat.le_refl _)
  clear hb2
  go_wp2_with fail
  refine (Nonce_any secret t _).mono ?_
  rw [HN.out, HM.out]
  rintro e w3 ⟨rfl, hb3⟩
  have B3 : Below w.heap.size w w3 := bcall (by go_grown) hb3 (by go_size)
  have s3 := B3.size
  have q3 : w2.heap.size ≤ w3.heap.size := by have h := hb3.size; first | omega | (simp at h; omega)
  obtain ⟨ba0, ba1, baf, bag, bal⟩ := (Box2.mk ba0 ba1 baf bag bal).below hb3 (by go_size)
  obtain ⟨bb0, bb1, bbf, bbg, bbl⟩ := (Box2.mk bb0 bb1 bbf bbg bbl).below hb3 (by go_size)
  clear A0 A1 A2 A3 A4 A5 A6 Af0 Af1 Af2 Af3 Af4 Af5 Af6 Al
  replace AB := AB.below hb3 (by have h := AB.lt; go_size)
  have A0 := AB.c 0 _ rfl
  have A1 := AB.c 1 _ rfl
  have A2 := AB.c 2 _ rfl
  have A3 := AB.c 3 _ rfl
  have A4 := AB.c 4 _ rfl
  have A5 := AB.c 5 _ rfl
  have A6 := AB.c 6 _ rfl
  have Af0 := AB.f 0 (Nat.le_of_ble_eq_true rfl)
  have Af1 := AB.f 1 (Nat.le_of_ble_eq_true rfl)
  have Af2 := AB.f 2 (Nat.le_of_ble_eq_true rfl)
  have Af3 := AB.f 3 (Nat.le_of_ble_eq_true rfl)
  have Af4 := AB.f 4 (Nat.le_of_ble_eq_true rfl)
  have Af5 := AB.f 5 (Nat.le_of_ble_eq_true rfl)
  have Af6 := AB.f 6 (Nat.le_of_ble_eq_true rfl)
  have Al := AB.lt
  clear Z0 Z1 Z2 Z3 Z4 Z5 Z6 Zf0 Zf1 Zf2 Zf3 Zf4 Zf5 Zf6 Zl
  replace ZB := ZB.below hb3 (by have h := ZB.lt; go_size)
  have Z0 := ZB.c 0 _ rfl
  have Z1 := ZB.c 1 _ rfl
  have Z2 := ZB.c 2 _ rfl
  have Z3 := ZB.c 3 _ rfl
  have Z4 := ZB.c 4 _ rfl
  have Z5 := ZB.c 5 _ rfl
  have Z6 := ZB.c 6 _ rfl
  have Zf0 := ZB.f 0 (Nat.le_of_ble_eq_true rfl)
  have Zf1 := ZB.f 1 (Nat.le_of_ble_eq_true rfl)
  have Zf2 := ZB.f 2 (Nat.le_of_ble_eq_true rfl)
  have Zf3 := ZB.f 3 (Nat.le_of_ble_eq_true rfl)
  have Zf4 := ZB.f 4 (Nat.le_of_ble_eq_true rfl)
  have Zf5 := ZB.f 5 (Nat.le_of_ble_eq_true rfl)
  have Zf6 := ZB.f 6 (Nat.le_of_ble_eq_true rfl)
  have Zl := ZB.lt
  replace hs := hs.below hb3 (Nat.le_refl _)
  clear hb3
  go_wp2_with fail
  refine (BinSearch_any xs n _ _ _ (hs.below (by go_grown) (Nat.le_refl _)) (by omega) HP.out).mono ?_
  rw [HK.out, HIS.out]
  rintro e w4 ⟨rfl, hb4⟩
  have B4 : Below w.heap.size w w4 := bcall (by go_grown) hb4 (by go_size)
  have s4 := B4.size
  have q4 : w3.heap.size + 1 ≤ w4.heap.size := by have h := hb4.size; first | omega | (simp at h; omega)
  obtain ⟨ba0, ba1, baf, bag, bal⟩ := ((Box2.mk ba0 ba1 baf bag bal).alloc (.cells #[(.int .i64 0), (.int .i64 0)] 26)).below hb4 (by go_size)
  obtain ⟨bb0, bb1, bbf, bbg, bbl⟩ := ((Box2.mk bb0 bb1 bbf bbg bbl).alloc (.cells #[(.int .i64 0), (.int .i64 0)] 26)).below hb4 (by go_size)
  obtain ⟨bc0, bc1, bcf, bcg, bcl⟩ := (Box2.new w3 (.int .i64 0) (.int .i64 0) 26).below hb4 (by go_size)
  clear A0 A1 A2 A3 A4 A5 A6 Af0 Af1 Af2 Af3 Af4 Af5 Af6 Al
  replace AB := (AB.alloc (.cells #[(.int .i64 0), (.int .i64 0)] 26)).below hb4 (by have h := AB.lt; go_size)
  have A0 := AB.c 0 _ rfl
  have A1 := AB.c 1 _ rfl
  have A2 := AB.c 2 _ rfl
  have A3 := AB.c 3 _ rfl
  have A4 := AB.c 4 _ rfl
  have A5 := AB.c 5 _ rfl
  have A6 := AB.c 6 _ rfl
  have Af0 := AB.f 0 (Nat.le_of_ble_eq_true rfl)
  have Af1 := AB.f 1 (Nat.le_of_ble_eq_true rfl)
  have Af2 := AB.f 2 (Nat.le_of_ble_eq_true rfl)
  have Af3 := AB.f 3 (Nat.le_of_ble_eq_true rfl)
  have Af4 := AB.f 4 (Nat.le_of_ble_eq_true rfl)
  have Af5 := AB.f 5 (Nat.le_of_ble_eq_true rfl)
  have Af6 := AB.f 6 (Nat.le_of_ble_eq_true rfl)
  have Al := AB.lt
  clear Z0 Z1 Z2 Z3 Z4 Z5 Z6 Zf0 Zf1 Zf2 Zf3 Zf4 Zf5 Zf6 Zl
  replace ZB := (ZB.alloc (.cells #[(.int .i64 0), (.int .i64 0)] 26)).below hb4 (by have h := ZB.lt; go_size)
  have Z0 := ZB.c 0 _ rfl
  have Z1 := ZB.c 1 _ rfl
  have Z2 := ZB.c 2 _ rfl
  have Z3 := ZB.c 3 _ rfl
  have Z4 := ZB.c 4 _ rfl
  have Z5 := ZB.c 5 _ rfl
  have Z6 := ZB.c 6 _ rfl
  have Zf0 := ZB.f 0 (Nat.le_of_ble_eq_true rfl)
  have Zf1 := ZB.f 1 (Nat.le_of_ble_eq_true rfl)
  have Zf2 := ZB.f 2 (Nat.le_of_ble_eq_true rfl)
  have Zf3 := ZB.f 3 (Nat.le_of_ble_eq_true rfl)
  have Zf4 := ZB.f 4 (Nat.le_of_ble_eq_true rfl)
  have Zf5 := ZB.f 5 (Nat.le_of_ble_eq_true rfl)
  have Zf6 := ZB.f 6 (Nat.le_of_ble_eq_true rfl)
  have Zl := ZB.lt
  replace hs := (hs.below (by go_grown) (Nat.le_refl _)).below hb4 (Nat.le_refl _)
  clear hb4
  go_wp2_with fail
  refine bodyPost_ret (v := .tuple #[.slice none 0 0, .agg #[.int .i64 (18), .int .i64 (1)]]) (by simp [results, Try.results26, go_sem, ba0, ba1]) rfl (RIntsF.bad E.out E2.out (by go_grown))
set_option maxRecDepth 100000 in
set_option maxHeartbeats 4000000 in
theorem Check_sig (secret now window : Int) (xs : List Int) (n t ky : Int) (rf : ByteArray) (o nw s : Int) (oa : Option Addr) (cap : Nat) (w : World) (hs : Sl w oa xs.length cap 1 (intVals xs)) (hm : xs.length ≤ 9223372036854775807)
    (hF : Pl.certF ⟨n, t, ky, rf, o, nw, s⟩ = (0, 0)) (hd : Pl.isDigestB s = true) (hk : Pl.isKeyB secret = true) (h1 : Pl.isTimeB now = true) (h2 : Pl.isTimeB window = true) (hB : Pl.certB ⟨n, t, ky, rf, o, nw, s⟩ = true) (hu : Pl.usedC xs = 0) (hus : Pl.Used xs)
    (c1 : decide (now < t) = false) (c2 : decide (t < now - window) = false) (c3 : n = Pl.nonceS secret t) (c4 : s ≠ Pl.certS ⟨n, t, ky, rf, o, nw, s⟩) :
    Calls Try.prog 26 #[.int .i64 secret, .int .i64 now, .int .i64 window, .slice oa xs.length cap, .agg (certCells ⟨n, t, ky, rf, o, nw, s⟩).toArray] w (RIntsF 3 (Pl.pushV secret now window xs ⟨n, t, ky, rf, o, nw, s⟩) (Pl.pushF secret now window xs ⟨n, t, ky, rf, o, nw, s⟩) w) := by
  unfold certCells
  simp only
  obtain ⟨F1, hF1⟩ : ∃ F, Pl.pushF secret now window xs ⟨n, t, ky, rf, o, nw, s⟩ = F := ⟨_, rfl⟩
  obtain ⟨V1, hV1⟩ : ∃ V, Pl.pushV secret now window xs ⟨n, t, ky, rf, o, nw, s⟩ = V := ⟨_, rfl⟩
  have hV2 := hV1
  unfold Pl.pushV at hV2
  rw [hF1] at hV2
  rw [hF1, hV1]
  clear hV1
  have EV := Lib.hid (show F1.1 ≠ 0 → V1 = [] from fun h => by rw [← hV2, if_neg h])
  have EW := Lib.hid (show F1.1 = 0 → V1 = Pl.insS xs n from fun h => by rw [← hV2, if_pos h])
  have EZ := Lib.hid (show F1 = (if (decide (now < t) || decide (t < now - window)) = true then (16, 0) else if n ≠ Pl.nonceS secret t then (18, 1) else if s ≠ Pl.certS ⟨n, t, ky, rf, o, nw, s⟩ then (18, 2) else if xs.contains n = true then (7, 0) else if xs.length = 40 then (14, 0) else (0, 0)) by rw [← hF1]; simp only [Pl.pushF]; rw [if_pos (by rw [hF]), if_pos hd, if_pos hk, if_pos (by rw [h1, h2]; rfl), if_pos hu])
  clear hF1 hV2
  have ht := (Pl.certB_true hB).2.1
  simp only at ht
  have HG := Lib.hid hF
  have HV := Lib.hid (show Pl.certV ⟨n, t, ky, rf, o, nw, s⟩ = ⟨n, t, ky, rf, o, nw, Pl.certS ⟨n, t, ky, rf, o, nw, s⟩⟩ by rw [Pl.certV, if_pos (by rw [hF])]; rfl)
  have HN := Lib.hid (show Pl.nonceF secret t = (0, 0) by rw [Pl.nonceF, if_pos hk, if_pos ht])
  have HM := Lib.hid (show Pl.nonceV secret t = Pl.nonceS secret t by rw [Pl.nonceV, HN.out]; rfl)
  obtain ⟨NS, hNS⟩ : ∃ x, Pl.nonceS secret t = x := ⟨_, rfl⟩
  obtain ⟨SG, hSG⟩ : ∃ x, Pl.certS ⟨n, t, ky, rf, o, nw, s⟩ = x := ⟨_, rfl⟩
  have hNS0 := hNS; have hSG0 := hSG
  rw [hNS] at HM EZ
  rw [hSG] at HV EZ
  have HU := Lib.hid hu
  have hlen := hus.len
  have HP := Lib.hid hus.pairwise
  have ht' := Pl.isTimeB_true.1 ht
  have h1' := Pl.isTimeB_true.1 h1
  have h2' := Pl.isTimeB_true.1 h2
  have ew : IntKind.i64.wrap (now - window) = now - window := IntWalk.i64_in _ (by omega)
  have HI := Lib.hid (Pl.insS_eq hus.pairwise n)
  have hkle : xs.countP (fun x => decide (x < n)) ≤ xs.length := List.countP_le_length
  obtain ⟨K, hK⟩ : ∃ K, xs.countP (fun x => decide (x < n)) = K := ⟨_, rfl⟩
  rw [hK] at HI hkle
  have HK := Lib.hid hK
  obtain ⟨IS, hIS⟩ : ∃ b, xs.contains n = b := ⟨_, rfl⟩
  rw [hIS] at EZ
  have hIS0 := hIS
  have HIS := Lib.hid hIS
  clear hF hB hu hus hNS hSG ht' h1' h2' hK hIS
  rw [hNS0] at c3
  rw [hSG0] at c4
  have u3 : (n == NS) = true := by simp [c3]
  have u3' : (n != NS) = false := by simp [c3]
  have E := Lib.hid (show F1 = (18, 2) by rw [EZ.out, if_neg (by simp [c1, c2]), if_neg (fun h => h c3), if_pos c4])
  clear EZ
  have E2 := Lib.hid (EV.out (by rw [E.out]; decide))
  have u4 : (s == SG) = false := by simp [c4]
  have u4' : (s != SG) = true := by simp [c4]
  clear c3 c4
  clear hNS0 hSG0 hIS0
  go_enter Try.func26, Try.ntmps26
  go_wp2_with (first | (go_at_call 52; refine (isDigest_any _ _).mono ?_; rintro e w' ⟨rfl, rfl⟩) | (go_at_call 45; refine (isKey_any _ _).mono ?_; rintro e w' ⟨rfl, rfl⟩) | (go_at_call 46; refine (isTime_any _ _).mono ?_; rintro e w' ⟨rfl, rfl⟩))
  refine (Certify_any ⟨n, t, ky, rf, o, nw, s⟩ _).mono ?_
  rw [HG.out, HV.out]
  rintro e w1 ⟨rfl, hb1⟩
  unfold certCells
  simp only
  have B1 : Below w.heap.size w w1 := bcall (by go_grown) hb1 (by go_size)
  have s1 := B1.size
  have q1 : w.heap.size + 2 ≤ w1.heap.size := by have h := hb1.size; first | omega | (simp at h; omega)
  have bah := (Box2.new (w.alloc (.cells #[.int .i64 n, .int .i64 t, .int .i64 ky, .string rf, .int .i64 o, .int .i64 nw, .int .i64 s] 23)) (.int .i64 0) (.int .i64 0) 26).below hb1 (by go_size)
  simp only [World.size_alloc] at bah
  obtain ⟨ba0, ba1, baf, bag, bal⟩ := bah
  have AB := ((Blk.new w [.int .i64 n, .int .i64 t, .int .i64 ky, .string rf, .int .i64 o, .int .i64 nw, .int .i64 s] 23 (g := w.heap.size) (by go_size)).alloc (.cells #[(.int .i64 0), (.int .i64 0)] 26)).below hb1 (by go_size)
  have A0 := AB.c 0 _ rfl
  have A1 := AB.c 1 _ rfl
  have A2 := AB.c 2 _ rfl
  have A3 := AB.c 3 _ rfl
  have A4 := AB.c 4 _ rfl
  have A5 := AB.c 5 _ rfl
  have A6 := AB.c 6 _ rfl
  have Af0 := AB.f 0 (Nat.le_of_ble_eq_true rfl)
  have Af1 := AB.f 1 (Nat.le_of_ble_eq_true rfl)
  have Af2 := AB.f 2 (Nat.le_of_ble_eq_true rfl)
  have Af3 := AB.f 3 (Nat.le_of_ble_eq_true rfl)
  have Af4 := AB.f 4 (Nat.le_of_ble_eq_true rfl)
  have Af5 := AB.f 5 (Nat.le_of_ble_eq_true rfl)
  have Af6 := AB.f 6 (Nat.le_of_ble_eq_true rfl)
  have Al := AB.lt
  replace hs := (hs.below (by go_grown) (Nat.le_refl _)).below hb1 (Nat.le_refl _)
  clear hb1
  go_wp2_with (first | (go_at_call 52; refine (isDigest_any _ _).mono ?_; rintro e w' ⟨rfl, rfl⟩) | (go_at_call 45; refine (isKey_any _ _).mono ?_; rintro e w' ⟨rfl, rfl⟩) | (go_at_call 46; refine (isTime_any _ _).mono ?_; rintro e w' ⟨rfl, rfl⟩))
  refine (checkUsed_any xs _ _ _ (hs.below (by go_grown) (Nat.le_refl _)) hm).mono ?_
  rw [HU.out]
  rintro e w2 ⟨rfl, hb2⟩
  have B2 : Below w.heap.size w w2 := bcall (by go_grown) hb2 (by go_size)
  have s2 := B2.size
  have q2 : w1.heap.size + 2 ≤ w2.heap.size := by have h := hb2.size; first | omega | (simp at h; omega)
  obtain ⟨ba0, ba1, baf, bag, bal⟩ := (((Box2.mk ba0 ba1 baf bag bal).alloc (.cells #[.int .i64 n, .int .i64 t, .int .i64 ky, .string rf, .int .i64 o, .int .i64 nw, .int .i64 SG] 23)).alloc (.cells #[(.int .i64 0), (.int .i64 0)] 26)).below hb2 (by go_size)
  have bbh := (Box2.new (w1.alloc (.cells #[.int .i64 n, .int .i64 t, .int .i64 ky, .string rf, .int .i64 o, .int .i64 nw, .int .i64 SG] 23)) (.int .i64 0) (.int .i64 0) 26).below hb2 (by go_size)
  simp only [World.size_alloc] at bbh
  obtain ⟨bb0, bb1, bbf, bbg, bbl⟩ := bbh
  clear A0 A1 A2 A3 A4 A5 A6 Af0 Af1 Af2 Af3 Af4 Af5 Af6 Al
  replace AB := ((AB.alloc (.cells #[.int .i64 n, .int .i64 t, .int .i64 ky, .string rf, .int .i64 o, .int .i64 nw, .int .i64 SG] 23)).alloc (.cells #[(.int .i64 0), (.int .i64 0)] 26)).below hb2 (by have h := AB.lt; go_size)
  have A0 := AB.c 0 _ rfl
  have A1 := AB.c 1 _ rfl
  have A2 := AB.c 2 _ rfl
  have A3 := AB.c 3 _ rfl
  have A4 := AB.c 4 _ rfl
  have A5 := AB.c 5 _ rfl
  have A6 := AB.c 6 _ rfl
  have Af0 := AB.f 0 (Nat.le_of_ble_eq_true rfl)
  have Af1 := AB.f 1 (Nat.le_of_ble_eq_true rfl)
  have Af2 := AB.f 2 (Nat.le_of_ble_eq_true rfl)
  have Af3 := AB.f 3 (Nat.le_of_ble_eq_true rfl)
  have Af4 := AB.f 4 (Nat.le_of_ble_eq_true rfl)
  have Af5 := AB.f 5 (Nat.le_of_ble_eq_true rfl)
  have Af6 := AB.f 6 (Nat.le_of_ble_eq_true rfl)
  have Al := AB.lt
  have ZB := ((Blk.new w1 [.int .i64 n, .int .i64 t, .int .i64 ky, .string rf, .int .i64 o, .int .i64 nw, .int .i64 SG] 23 (g := w1.heap.size) (by go_size)).alloc (.cells #[(.int .i64 0), (.int .i64 0)] 26)).below hb2 (by go_size)
  have Z0 := ZB.c 0 _ rfl
  have Z1 := ZB.c 1 _ rfl
  have Z2 := ZB.c 2 _ rfl
  have Z3 := ZB.c 3 _ rfl
  have Z4 := ZB.c 4 _ rfl
  have Z5 := ZB.c 5 _ rfl
  have Z6 := ZB.c 6 _ rfl
  have Zf0 := ZB.f 0 (Nat.le_of_ble_eq_true rfl)
  have Zf1 := ZB.f 1 (Nat.le_of_ble_eq_true rfl)
  have Zf2 := ZB.f 2 (Nat.le_of_ble_eq_true rfl)
  have Zf3 := ZB.f 3 (Nat.le_of_ble_eq_true rfl)
  have Zf4 := ZB.f 4 (Nat.le_of_ble_eq_true rfl)
  have Zf5 := ZB.f 5 (Nat.le_of_ble_eq_true rfl)
  have Zf6 := ZB.f 6 (Nat.le_of_ble_eq_true rfl)
  have Zl := ZB.lt
  replace hs := (hs.below (by go_grown) (Nat.le_refl _)).below hb2 (Nat.le_refl _)
  clear hb2
  go_wp2_with fail
  refine (Nonce_any secret t _).mono ?_
  rw [HN.out, HM.out]
  rintro e w3 ⟨rfl, hb3⟩
  have B3 : Below w.heap.size w w3 := bcall (by go_grown) hb3 (by go_size)
  have s3 := B3.size
  have q3 : w2.heap.size ≤ w3.heap.size := by have h := hb3.size; first | omega | (simp at h; omega)
  obtain ⟨ba0, ba1, baf, bag, bal⟩ := (Box2.mk ba0 ba1 baf bag bal).below hb3 (by go_size)
  obtain ⟨bb0, bb1, bbf, bbg, bbl⟩ := (Box2.mk bb0 bb1 bbf bbg bbl).below hb3 (by go_size)
  clear A0 A1 A2 A3 A4 A5 A6 Af0 Af1 Af2 Af3 Af4 Af5 Af6 Al
  replace AB := AB.below hb3 (by have h := AB.lt; go_size)
  have A0 := AB.c 0 _ rfl
  have A1 := AB.c 1 _ rfl
  have A2 := AB.c 2 _ rfl
  have A3 := AB.c 3 _ rfl
  have A4 := AB.c 4 _ rfl
  have A5 := AB.c 5 _ rfl
  have A6 := AB.c 6 _ rfl
  have Af0 := AB.f 0 (Nat.le_of_ble_eq_true rfl)
  have Af1 := AB.f 1 (Nat.le_of_ble_eq_true rfl)
  have Af2 := AB.f 2 (Nat.le_of_ble_eq_true rfl)
  have Af3 := AB.f 3 (Nat.le_of_ble_eq_true rfl)
  have Af4 := AB.f 4 (Nat.le_of_ble_eq_true rfl)
  have Af5 := AB.f 5 (Nat.le_of_ble_eq_true rfl)
  have Af6 := AB.f 6 (Nat.le_of_ble_eq_true rfl)
  have Al := AB.lt
  clear Z0 Z1 Z2 Z3 Z4 Z5 Z6 Zf0 Zf1 Zf2 Zf3 Zf4 Zf5 Zf6 Zl
  replace ZB := ZB.below hb3 (by have h := ZB.lt; go_size)
  have Z0 := ZB.c 0 _ rfl
  have Z1 := ZB.c 1 _ rfl
  have Z2 := ZB.c 2 _ rfl
  have Z3 := ZB.c 3 _ rfl
  have Z4 := ZB.c 4 _ rfl
  have Z5 := ZB.c 5 _ rfl
  have Z6 := ZB.c 6 _ rfl
  have Zf0 := ZB.f 0 (Nat.le_of_ble_eq_true rfl)
  have Zf1 := ZB.f 1 (Nat.le_of_ble_eq_true rfl)
  have Zf2 := ZB.f 2 (Nat.le_of_ble_eq_true rfl)
  have Zf3 := ZB.f 3 (Nat.le_of_ble_eq_true rfl)
  have Zf4 := ZB.f 4 (Nat.le_of_ble_eq_true rfl)
  have Zf5 := ZB.f 5 (Nat.le_of_ble_eq_true rfl)
  have Zf6 := ZB.f 6 (Nat.le_of_ble_eq_true rfl)
  have Zl := ZB.lt
  replace hs := hs.below hb3 (Nat.le_refl _)
  clear hb3
  go_wp2_with fail
  refine (BinSearch_any xs n _ _ _ (hs.below (by go_grown) (Nat.le_refl _)) (by omega) HP.out).mono ?_
  rw [HK.out, HIS.out]
  rintro e w4 ⟨rfl, hb4⟩
  have B4 : Below w.heap.size w w4 := bcall (by go_grown) hb4 (by go_size)
  have s4 := B4.size
  have q4 : w3.heap.size + 1 ≤ w4.heap.size := by have h := hb4.size; first | omega | (simp at h; omega)
  obtain ⟨ba0, ba1, baf, bag, bal⟩ := ((Box2.mk ba0 ba1 baf bag bal).alloc (.cells #[(.int .i64 0), (.int .i64 0)] 26)).below hb4 (by go_size)
  obtain ⟨bb0, bb1, bbf, bbg, bbl⟩ := ((Box2.mk bb0 bb1 bbf bbg bbl).alloc (.cells #[(.int .i64 0), (.int .i64 0)] 26)).below hb4 (by go_size)
  obtain ⟨bc0, bc1, bcf, bcg, bcl⟩ := (Box2.new w3 (.int .i64 0) (.int .i64 0) 26).below hb4 (by go_size)
  clear A0 A1 A2 A3 A4 A5 A6 Af0 Af1 Af2 Af3 Af4 Af5 Af6 Al
  replace AB := (AB.alloc (.cells #[(.int .i64 0), (.int .i64 0)] 26)).below hb4 (by have h := AB.lt; go_size)
  have A0 := AB.c 0 _ rfl
  have A1 := AB.c 1 _ rfl
  have A2 := AB.c 2 _ rfl
  have A3 := AB.c 3 _ rfl
  have A4 := AB.c 4 _ rfl
  have A5 := AB.c 5 _ rfl
  have A6 := AB.c 6 _ rfl
  have Af0 := AB.f 0 (Nat.le_of_ble_eq_true rfl)
  have Af1 := AB.f 1 (Nat.le_of_ble_eq_true rfl)
  have Af2 := AB.f 2 (Nat.le_of_ble_eq_true rfl)
  have Af3 := AB.f 3 (Nat.le_of_ble_eq_true rfl)
  have Af4 := AB.f 4 (Nat.le_of_ble_eq_true rfl)
  have Af5 := AB.f 5 (Nat.le_of_ble_eq_true rfl)
  have Af6 := AB.f 6 (Nat.le_of_ble_eq_true rfl)
  have Al := AB.lt
  clear Z0 Z1 Z2 Z3 Z4 Z5 Z6 Zf0 Zf1 Zf2 Zf3 Zf4 Zf5 Zf6 Zl
  replace ZB := (ZB.alloc (.cells #[(.int .i64 0), (.int .i64 0)] 26)).below hb4 (by have h := ZB.lt; go_size)
  have Z0 := ZB.c 0 _ rfl
  have Z1 := ZB.c 1 _ rfl
  have Z2 := ZB.c 2 _ rfl
  have Z3 := ZB.c 3 _ rfl
  have Z4 := ZB.c 4 _ rfl
  have Z5 := ZB.c 5 _ rfl
  have Z6 := ZB.c 6 _ rfl
  have Zf0 := ZB.f 0 (Nat.le_of_ble_eq_true rfl)
  have Zf1 := ZB.f 1 (Nat.le_of_ble_eq_true rfl)
  have Zf2 := ZB.f 2 (Nat.le_of_ble_eq_true rfl)
  have Zf3 := ZB.f 3 (Nat.le_of_ble_eq_true rfl)
  have Zf4 := ZB.f 4 (Nat.le_of_ble_eq_true rfl)
  have Zf5 := ZB.f 5 (Nat.le_of_ble_eq_true rfl)
  have Zf6 := ZB.f 6 (Nat.le_of_ble_eq_true rfl)
  have Zl := ZB.lt
  replace hs := (hs.below (by go_grown) (Nat.le_refl _)).below hb4 (Nat.le_refl _)
  clear hb4
  go_wp2_with fail
  refine bodyPost_ret (v := .tuple #[.slice none 0 0, .agg #[.int .i64 (18), .int .i64 (2)]]) (by simp [results, Try.results26, go_sem, ba0, ba1]) rfl (RIntsF.bad E.out E2.out (by go_grown))
set_option maxRecDepth 100000 in
set_option maxHeartbeats 4000000 in
theorem Check_used (secret now window : Int) (xs : List Int) (n t ky : Int) (rf : ByteArray) (o nw s : Int) (oa : Option Addr) (cap : Nat) (w : World) (hs : Sl w oa xs.length cap 1 (intVals xs)) (hm : xs.length ≤ 9223372036854775807)
    (hF : Pl.certF ⟨n, t, ky, rf, o, nw, s⟩ = (0, 0)) (hd : Pl.isDigestB s = true) (hk : Pl.isKeyB secret = true) (h1 : Pl.isTimeB now = true) (h2 : Pl.isTimeB window = true) (hB : Pl.certB ⟨n, t, ky, rf, o, nw, s⟩ = true) (hu : Pl.usedC xs = 0) (hus : Pl.Used xs)
    (c1 : decide (now < t) = false) (c2 : decide (t < now - window) = false) (c3 : n = Pl.nonceS secret t) (c4 : s = Pl.certS ⟨n, t, ky, rf, o, nw, s⟩) (c5 : xs.contains n = true) :
    Calls Try.prog 26 #[.int .i64 secret, .int .i64 now, .int .i64 window, .slice oa xs.length cap, .agg (certCells ⟨n, t, ky, rf, o, nw, s⟩).toArray] w (RIntsF 3 (Pl.pushV secret now window xs ⟨n, t, ky, rf, o, nw, s⟩) (Pl.pushF secret now window xs ⟨n, t, ky, rf, o, nw, s⟩) w) := by
  unfold certCells
  simp only
  obtain ⟨F1, hF1⟩ : ∃ F, Pl.pushF secret now window xs ⟨n, t, ky, rf, o, nw, s⟩ = F := ⟨_, rfl⟩
  obtain ⟨V1, hV1⟩ : ∃ V, Pl.pushV secret now window xs ⟨n, t, ky, rf, o, nw, s⟩ = V := ⟨_, rfl⟩
  have hV2 := hV1
  unfold Pl.pushV at hV2
  rw [hF1] at hV2
  rw [hF1, hV1]
  clear hV1
  have EV := Lib.hid (show F1.1 ≠ 0 → V1 = [] from fun h => by rw [← hV2, if_neg h])
  have EW := Lib.hid (show F1.1 = 0 → V1 = Pl.insS xs n from fun h => by rw [← hV2, if_pos h])
  have EZ := Lib.hid (show F1 = (if (decide (now < t) || decide (t < now - window)) = true then (16, 0) else if n ≠ Pl.nonceS secret t then (18, 1) else if s ≠ Pl.certS ⟨n, t, ky, rf, o, nw, s⟩ then (18, 2) else if xs.contains n = true then (7, 0) else if xs.length = 40 then (14, 0) else (0, 0)) by rw [← hF1]; simp only [Pl.pushF]; rw [if_pos (by rw [hF]), if_pos hd, if_pos hk, if_pos (by rw [h1, h2]; rfl), if_pos hu])
  clear hF1 hV2
  have ht := (Pl.certB_true hB).2.1
  simp only at ht
  have HG := Lib.hid hF
  have HV := Lib.hid (show Pl.certV ⟨n, t, ky, rf, o, nw, s⟩ = ⟨n, t, ky, rf, o, nw, Pl.certS ⟨n, t, ky, rf, o, nw, s⟩⟩ by rw [Pl.certV, if_pos (by rw [hF])]; rfl)
  have HN := Lib.hid (show Pl.nonceF secret t = (0, 0) by rw [Pl.nonceF, if_pos hk, if_pos ht])
  have HM := Lib.hid (show Pl.nonceV secret t = Pl.nonceS secret t by rw [Pl.nonceV, HN.out]; rfl)
  obtain ⟨NS, hNS⟩ : ∃ x, Pl.nonceS secret t = x := ⟨_, rfl⟩
  obtain ⟨SG, hSG⟩ : ∃ x, Pl.certS ⟨n, t, ky, rf, o, nw, s⟩ = x := ⟨_, rfl⟩
  have hNS0 := hNS; have hSG0 := hSG
  rw [hNS] at HM EZ
  rw [hSG] at HV EZ
  have HU := Lib.hid hu
  have hlen := hus.len
  have HP := Lib.hid hus.pairwise
  have ht' := Pl.isTimeB_true.1 ht
  have h1' := Pl.isTimeB_true.1 h1
  have h2' := Pl.isTimeB_true.1 h2
  have ew : IntKind.i64.wrap (now - window) = now - window := IntWalk.i64_in _ (by omega)
  have HI := Lib.hid (Pl.insS_eq hus.pairwise n)
  have hkle : xs.countP (fun x => decide (x < n)) ≤ xs.length := List.countP_le_length
  obtain ⟨K, hK⟩ : ∃ K, xs.countP (fun x => decide (x < n)) = K := ⟨_, rfl⟩
  rw [hK] at HI hkle
  have HK := Lib.hid hK
  obtain ⟨IS, hIS⟩ : ∃ b, xs.contains n = b := ⟨_, rfl⟩
  rw [hIS] at EZ
  have hIS0 := hIS
  have HIS := Lib.hid hIS
  clear hF hB hu hus hNS hSG ht' h1' h2' hK hIS
  rw [hNS0] at c3
  rw [hSG0] at c4
  rw [hIS0] at c5
  subst c5
  have u3 : (n == NS) = true := by simp [c3]
  have u3' : (n != NS) = false := by simp [c3]
  have u4 : (s == SG) = true := by simp [c4]
  have u4' : (s != SG) = false := by simp [c4]
  have E := Lib.hid (show F1 = (7, 0) by rw [EZ.out, if_neg (by simp [c1, c2]), if_neg (fun h => h c3), if_neg (fun h => h c4), if_pos rfl])
  clear EZ
  have E2 := Lib.hid (EV.out (by rw [E.out]; decide))
  clear c3 c4
  clear hNS0 hSG0 hIS0
  go_enter Try.func26, Try.ntmps26
  go_wp2_with (first | (go_at_call 52; refine (isDigest_any _ _).mono ?_; rintro e w' ⟨rfl, rfl⟩) | (go_at_call 45; refine (isKey_any _ _).mono ?_; rintro e w' ⟨rfl, rfl⟩) | (go_at_call 46; refine (isTime_any _ _).mono ?_; rintro e w' ⟨rfl, rfl⟩))
  refine (Certify_any ⟨n, t, ky, rf, o, nw, s⟩ _).mono ?_
  rw [HG.out, HV.out]
  rintro e w1 ⟨rfl, hb1⟩
  unfold certCells
  simp only
  have B1 : Below w.heap.size w w1 := bcall (by go_grown) hb1 (by go_size)
  have s1 := B1.size
  have q1 : w.heap.size + 2 ≤ w1.heap.size := by have h := hb1.size; first | omega | (simp at h; omega)
  have bah := (Box2.new (w.alloc (.cells #[.int .i64 n, .int .i64 t, .int .i64 ky, .string rf, .int .i64 o, .int .i64 nw, .int .i64 s] 23)) (.int .i64 0) (.int .i64 0) 26).below hb1 (by go_size)
  simp only [World.size_alloc] at bah
  obtain ⟨ba0, ba1, baf, bag, bal⟩ := bah
  have AB := ((Blk.new w [.int .i64 n, .int .i64 t, .int .i64 ky, .string rf, .int .i64 o, .int .i64 nw, .int .i64 s] 23 (g := w.heap.size) (by go_size)).alloc (.cells #[(.int .i64 0), (.int .i64 0)] 26)).below hb1 (by go_size)
  have A0 := AB.c 0 _ rfl
  have A1 := AB.c 1 _ rfl
  have A2 := AB.c 2 _ rfl
  have A3 := AB.c 3 _ rfl
  have A4 := AB.c 4 _ rfl
  have A5 := AB.c 5 _ rfl
  have A6 := AB.c 6 _ rfl
  have Af0 := AB.f 0 (Nat.le_of_ble_eq_true rfl)
  have Af1 := AB.f 1 (Nat.le_of_ble_eq_true rfl)
  have Af2 := AB.f 2 (Nat.le_of_ble_eq_true rfl)
  have Af3 := AB.f 3 (Nat.le_of_ble_eq_true rfl)
  have Af4 := AB.f 4 (Nat.le_of_ble_eq_true rfl)
  have Af5 := AB.f 5 (Nat.le_of_ble_eq_true rfl)
  have Af6 := AB.f 6 (Nat.le_of_ble_eq_true rfl)
  have Al := AB.lt
  replace hs := (hs.below (by go_grown) (Nat.le_refl _)).below hb1 (Nat.le_refl _)
  clear hb1
  go_wp2_with (first | (go_at_call 52; refine (isDigest_any _ _).mono ?_; rintro e w' ⟨rfl, rfl⟩) | (go_at_call 45; refine (isKey_any _ _).mono ?_; rintro e w' ⟨rfl, rfl⟩) | (go_at_call 46; refine (isTime_any _ _).mono ?_; rintro e w' ⟨rfl, rfl⟩))
  refine (checkUsed_any xs _ _ _ (hs.below (by go_grown) (Nat.le_refl _)) hm).mono ?_
  rw [HU.out]
  rintro e w2 ⟨rfl, hb2⟩
  have B2 : Below w.heap.size w w2 := bcall (by go_grown) hb2 (by go_size)
  have s2 := B2.size
  have q2 : w1.heap.size + 2 ≤ w2.heap.size := by have h := hb2.size; first | omega | (simp at h; omega)
  obtain ⟨ba0, ba1, baf, bag, bal⟩ := (((Box2.mk ba0 ba1 baf bag bal).alloc (.cells #[.int .i64 n, .int .i64 t, .int .i64 ky, .string rf, .int .i64 o, .int .i64 nw, .int .i64 SG] 23)).alloc (.cells #[(.int .i64 0), (.int .i64 0)] 26)).below hb2 (by go_size)
  have bbh := (Box2.new (w1.alloc (.cells #[.int .i64 n, .int .i64 t, .int .i64 ky, .string rf, .int .i64 o, .int .i64 nw, .int .i64 SG] 23)) (.int .i64 0) (.int .i64 0) 26).below hb2 (by go_size)
  simp only [World.size_alloc] at bbh
  obtain ⟨bb0, bb1, bbf, bbg, bbl⟩ := bbh
  clear A0 A1 A2 A3 A4 A5 A6 Af0 Af1 Af2 Af3 Af4 Af5 Af6 Al
  replace AB := ((AB.alloc (.cells #[.int .i64 n, .int .i64 t, .int .i64 ky, .string rf, .int .i64 o, .int .i64 nw, .int .i64 SG] 23)).alloc (.cells #[(.int .i64 0), (.int .i64 0)] 26)).below hb2 (by have h := AB.lt; go_size)
  have A0 := AB.c 0 _ rfl
  have A1 := AB.c 1 _ rfl
  have A2 := AB.c 2 _ rfl
  have A3 := AB.c 3 _ rfl
  have A4 := AB.c 4 _ rfl
  have A5 := AB.c 5 _ rfl
  have A6 := AB.c 6 _ rfl
  have Af0 := AB.f 0 (Nat.le_of_ble_eq_true rfl)
  have Af1 := AB.f 1 (Nat.le_of_ble_eq_true rfl)
  have Af2 := AB.f 2 (Nat.le_of_ble_eq_true rfl)
  have Af3 := AB.f 3 (Nat.le_of_ble_eq_true rfl)
  have Af4 := AB.f 4 (Nat.le_of_ble_eq_true rfl)
  have Af5 := AB.f 5 (Nat.le_of_ble_eq_true rfl)
  have Af6 := AB.f 6 (Nat.le_of_ble_eq_true rfl)
  have Al := AB.lt
  have ZB := ((Blk.new w1 [.int .i64 n, .int .i64 t, .int .i64 ky, .string rf, .int .i64 o, .int .i64 nw, .int .i64 SG] 23 (g := w1.heap.size) (by go_size)).alloc (.cells #[(.int .i64 0), (.int .i64 0)] 26)).below hb2 (by go_size)
  have Z0 := ZB.c 0 _ rfl
  have Z1 := ZB.c 1 _ rfl
  have Z2 := ZB.c 2 _ rfl
  have Z3 := ZB.c 3 _ rfl
  have Z4 := ZB.c 4 _ rfl
  have Z5 := ZB.c 5 _ rfl
  have Z6 := ZB.c 6 _ rfl
  have Zf0 := ZB.f 0 (Nat.le_of_ble_eq_true rfl)
  have Zf1 := ZB.f 1 (Nat.le_of_ble_eq_true rfl)
  have Zf2 := ZB.f 2 (Nat.le_of_ble_eq_true rfl)
  have Zf3 := ZB.f 3 (Nat.le_of_ble_eq_true rfl)
  have Zf4 := ZB.f 4 (Nat.le_of_ble_eq_true rfl)
  have Zf5 := ZB.f 5 (Nat.le_of_ble_eq_true rfl)
  have Zf6 := ZB.f 6 (Nat.le_of_ble_eq_true rfl)
  have Zl := ZB.lt
  replace hs := (hs.below (by go_grown) (Nat.le_refl _)).below hb2 (Nat.le_refl _)
  clear hb2
  go_wp2_with fail
  refine (Nonce_any secret t _).mono ?_
  rw [HN.out, HM.out]
  rintro e w3 ⟨rfl, hb3⟩
  have B3 : Below w.heap.size w w3 := bcall (by go_grown) hb3 (by go_size)
  have s3 := B3.size
  have q3 : w2.heap.size ≤ w3.heap.size := by have h := hb3.size; first | omega | (simp at h; omega)
  obtain ⟨ba0, ba1, baf, bag, bal⟩ := (Box2.mk ba0 ba1 baf bag bal).below hb3 (by go_size)
  obtain ⟨bb0, bb1, bbf, bbg, bbl⟩ := (Box2.mk bb0 bb1 bbf bbg bbl).below hb3 (by go_size)
  clear A0 A1 A2 A3 A4 A5 A6 Af0 Af1 Af2 Af3 Af4 Af5 Af6 Al
  replace AB := AB.below hb3 (by have h := AB.lt; go_size)
  have A0 := AB.c 0 _ rfl
  have A1 := AB.c 1 _ rfl
  have A2 := AB.c 2 _ rfl
  have A3 := AB.c 3 _ rfl
  have A4 := AB.c 4 _ rfl
  have A5 := AB.c 5 _ rfl
  have A6 := AB.c 6 _ rfl
  have Af0 := AB.f 0 (Nat.le_of_ble_eq_true rfl)
  have Af1 := AB.f 1 (Nat.le_of_ble_eq_true rfl)
  have Af2 := AB.f 2 (Nat.le_of_ble_eq_true rfl)
  have Af3 := AB.f 3 (Nat.le_of_ble_eq_true rfl)
  have Af4 := AB.f 4 (Nat.le_of_ble_eq_true rfl)
  have Af5 := AB.f 5 (Nat.le_of_ble_eq_true rfl)
  have Af6 := AB.f 6 (Nat.le_of_ble_eq_true rfl)
  have Al := AB.lt
  clear Z0 Z1 Z2 Z3 Z4 Z5 Z6 Zf0 Zf1 Zf2 Zf3 Zf4 Zf5 Zf6 Zl
  replace ZB := ZB.below hb3 (by have h := ZB.lt; go_size)
  have Z0 := ZB.c 0 _ rfl
  have Z1 := ZB.c 1 _ rfl
  have Z2 := ZB.c 2 _ rfl
  have Z3 := ZB.c 3 _ rfl
  have Z4 := ZB.c 4 _ rfl
  have Z5 := ZB.c 5 _ rfl
  have Z6 := ZB.c 6 _ rfl
  have Zf0 := ZB.f 0 (Nat.le_of_ble_eq_true rfl)
  have Zf1 := ZB.f 1 (Nat.le_of_ble_eq_true rfl)
  have Zf2 := ZB.f 2 (Nat.le_of_ble_eq_true rfl)
  have Zf3 := ZB.f 3 (Nat.le_of_ble_eq_true rfl)
  have Zf4 := ZB.f 4 (Nat.le_of_ble_eq_true rfl)
  have Zf5 := ZB.f 5 (Nat.le_of_ble_eq_true rfl)
  have Zf6 := ZB.f 6 (Nat.le_of_ble_eq_true rfl)
  have Zl := ZB.lt
  replace hs := hs.below hb3 (Nat.le_refl _)
  clear hb3
  go_wp2_with fail
  refine (BinSearch_any xs n _ _ _ (hs.below (by go_grown) (Nat.le_refl _)) (by omega) HP.out).mono ?_
  rw [HK.out, HIS.out]
  rintro e w4 ⟨rfl, hb4⟩
  have B4 : Below w.heap.size w w4 := bcall (by go_grown) hb4 (by go_size)
  have s4 := B4.size
  have q4 : w3.heap.size + 1 ≤ w4.heap.size := by have h := hb4.size; first | omega | (simp at h; omega)
  obtain ⟨ba0, ba1, baf, bag, bal⟩ := ((Box2.mk ba0 ba1 baf bag bal).alloc (.cells #[(.int .i64 0), (.int .i64 0)] 26)).below hb4 (by go_size)
  obtain ⟨bb0, bb1, bbf, bbg, bbl⟩ := ((Box2.mk bb0 bb1 bbf bbg bbl).alloc (.cells #[(.int .i64 0), (.int .i64 0)] 26)).below hb4 (by go_size)
  obtain ⟨bc0, bc1, bcf, bcg, bcl⟩ := (Box2.new w3 (.int .i64 0) (.int .i64 0) 26).below hb4 (by go_size)
  clear A0 A1 A2 A3 A4 A5 A6 Af0 Af1 Af2 Af3 Af4 Af5 Af6 Al
  replace AB := (AB.alloc (.cells #[(.int .i64 0), (.int .i64 0)] 26)).below hb4 (by have h := AB.lt; go_size)
  have A0 := AB.c 0 _ rfl
  have A1 := AB.c 1 _ rfl
  have A2 := AB.c 2 _ rfl
  have A3 := AB.c 3 _ rfl
  have A4 := AB.c 4 _ rfl
  have A5 := AB.c 5 _ rfl
  have A6 := AB.c 6 _ rfl
  have Af0 := AB.f 0 (Nat.le_of_ble_eq_true rfl)
  have Af1 := AB.f 1 (Nat.le_of_ble_eq_true rfl)
  have Af2 := AB.f 2 (Nat.le_of_ble_eq_true rfl)
  have Af3 := AB.f 3 (Nat.le_of_ble_eq_true rfl)
  have Af4 := AB.f 4 (Nat.le_of_ble_eq_true rfl)
  have Af5 := AB.f 5 (Nat.le_of_ble_eq_true rfl)
  have Af6 := AB.f 6 (Nat.le_of_ble_eq_true rfl)
  have Al := AB.lt
  clear Z0 Z1 Z2 Z3 Z4 Z5 Z6 Zf0 Zf1 Zf2 Zf3 Zf4 Zf5 Zf6 Zl
  replace ZB := (ZB.alloc (.cells #[(.int .i64 0), (.int .i64 0)] 26)).below hb4 (by have h := ZB.lt; go_size)
  have Z0 := ZB.c 0 _ rfl
  have Z1 := ZB.c 1 _ rfl
  have Z2 := ZB.c 2 _ rfl
  have Z3 := ZB.c 3 _ rfl
  have Z4 := ZB.c 4 _ rfl
  have Z5 := ZB.c 5 _ rfl
  have Z6 := ZB.c 6 _ rfl
  have Zf0 := ZB.f 0 (Nat.le_of_ble_eq_true rfl)
  have Zf1 := ZB.f 1 (Nat.le_of_ble_eq_true rfl)
  have Zf2 := ZB.f 2 (Nat.le_of_ble_eq_true rfl)
  have Zf3 := ZB.f 3 (Nat.le_of_ble_eq_true rfl)
  have Zf4 := ZB.f 4 (Nat.le_of_ble_eq_true rfl)
  have Zf5 := ZB.f 5 (Nat.le_of_ble_eq_true rfl)
  have Zf6 := ZB.f 6 (Nat.le_of_ble_eq_true rfl)
  have Zl := ZB.lt
  replace hs := (hs.below (by go_grown) (Nat.le_refl _)).below hb4 (Nat.le_refl _)
  clear hb4
  go_wp2_with fail
  refine bodyPost_ret (v := .tuple #[.slice none 0 0, .agg #[.int .i64 (7), .int .i64 (0)]]) (by simp [results, Try.results26, go_sem, ba0, ba1]) rfl (RIntsF.bad E.out E2.out (by go_grown))
set_option maxRecDepth 100000 in
set_option maxHeartbeats 4000000 in
theorem Check_full (secret now window : Int) (xs : List Int) (n t ky : Int) (rf : ByteArray) (o nw s : Int) (oa : Option Addr) (cap : Nat) (w : World) (hs : Sl w oa xs.length cap 1 (intVals xs)) (hm : xs.length ≤ 9223372036854775807)
    (hF : Pl.certF ⟨n, t, ky, rf, o, nw, s⟩ = (0, 0)) (hd : Pl.isDigestB s = true) (hk : Pl.isKeyB secret = true) (h1 : Pl.isTimeB now = true) (h2 : Pl.isTimeB window = true) (hB : Pl.certB ⟨n, t, ky, rf, o, nw, s⟩ = true) (hu : Pl.usedC xs = 0) (hus : Pl.Used xs)
    (c1 : decide (now < t) = false) (c2 : decide (t < now - window) = false) (c3 : n = Pl.nonceS secret t) (c4 : s = Pl.certS ⟨n, t, ky, rf, o, nw, s⟩) (c5 : xs.contains n = false) (c6 : xs.length = 40) :
    Calls Try.prog 26 #[.int .i64 secret, .int .i64 now, .int .i64 window, .slice oa xs.length cap, .agg (certCells ⟨n, t, ky, rf, o, nw, s⟩).toArray] w (RIntsF 3 (Pl.pushV secret now window xs ⟨n, t, ky, rf, o, nw, s⟩) (Pl.pushF secret now window xs ⟨n, t, ky, rf, o, nw, s⟩) w) := by
  unfold certCells
  simp only
  obtain ⟨F1, hF1⟩ : ∃ F, Pl.pushF secret now window xs ⟨n, t, ky, rf, o, nw, s⟩ = F := ⟨_, rfl⟩
  obtain ⟨V1, hV1⟩ : ∃ V, Pl.pushV secret now window xs ⟨n, t, ky, rf, o, nw, s⟩ = V := ⟨_, rfl⟩
  have hV2 := hV1
  unfold Pl.pushV at hV2
  rw [hF1] at hV2
  rw [hF1, hV1]
  clear hV1
  have EV := Lib.hid (show F1.1 ≠ 0 → V1 = [] from fun h => by rw [← hV2, if_neg h])
  have EW := Lib.hid (show F1.1 = 0 → V1 = Pl.insS xs n from fun h => by rw [← hV2, if_pos h])
  have EZ := Lib.hid (show F1 = (if (decide (now < t) || decide (t < now - window)) = true then (16, 0) else if n ≠ Pl.nonceS secret t then (18, 1) else if s ≠ Pl.certS ⟨n, t, ky, rf, o, nw, s⟩ then (18, 2) else if xs.contains n = true then (7, 0) else if xs.length = 40 then (14, 0) else (0, 0)) by rw [← hF1]; simp only [Pl.pushF]; rw [if_pos (by rw [hF]), if_pos hd, if_pos hk, if_pos (by rw [h1, h2]; rfl), if_pos hu])
  clear hF1 hV2
  have ht := (Pl.certB_true hB).2.1
  simp only at ht
  have HG := Lib.hid hF
  have HV := Lib.hid (show Pl.certV ⟨n, t, ky, rf, o, nw, s⟩ = ⟨n, t, ky, rf, o, nw, Pl.certS ⟨n, t, ky, rf, o, nw, s⟩⟩ by rw [Pl.certV, if_pos (by rw [hF])]; rfl)
  have HN := Lib.hid (show Pl.nonceF secret t = (0, 0) by rw [Pl.nonceF, if_pos hk, if_pos ht])
  have HM := Lib.hid (show Pl.nonceV secret t = Pl.nonceS secret t by rw [Pl.nonceV, HN.out]; rfl)
  obtain ⟨NS, hNS⟩ : ∃ x, Pl.nonceS secret t = x := ⟨_, rfl⟩
  obtain ⟨SG, hSG⟩ : ∃ x, Pl.certS ⟨n, t, ky, rf, o, nw, s⟩ = x := ⟨_, rfl⟩
  have hNS0 := hNS; have hSG0 := hSG
  rw [hNS] at HM EZ
  rw [hSG] at HV EZ
  have HU := Lib.hid hu
  have hlen := hus.len
  have HP := Lib.hid hus.pairwise
  have ht' := Pl.isTimeB_true.1 ht
  have h1' := Pl.isTimeB_true.1 h1
  have h2' := Pl.isTimeB_true.1 h2
  have ew : IntKind.i64.wrap (now - window) = now - window := IntWalk.i64_in _ (by omega)
  have HI := Lib.hid (Pl.insS_eq hus.pairwise n)
  have hkle : xs.countP (fun x => decide (x < n)) ≤ xs.length := List.countP_le_length
  obtain ⟨K, hK⟩ : ∃ K, xs.countP (fun x => decide (x < n)) = K := ⟨_, rfl⟩
  rw [hK] at HI hkle
  have HK := Lib.hid hK
  obtain ⟨IS, hIS⟩ : ∃ b, xs.contains n = b := ⟨_, rfl⟩
  rw [hIS] at EZ
  have hIS0 := hIS
  have HIS := Lib.hid hIS
  clear hF hB hu hus hNS hSG ht' h1' h2' hK hIS
  rw [hNS0] at c3
  rw [hSG0] at c4
  rw [hIS0] at c5
  subst c5
  have u3 : (n == NS) = true := by simp [c3]
  have u3' : (n != NS) = false := by simp [c3]
  have u4 : (s == SG) = true := by simp [c4]
  have u4' : (s != SG) = false := by simp [c4]
  have E := Lib.hid (show F1 = (14, 0) by rw [EZ.out, if_neg (by simp [c1, c2]), if_neg (fun h => h c3), if_neg (fun h => h c4), if_neg (by decide), if_pos c6])
  clear EZ
  have E2 := Lib.hid (EV.out (by rw [E.out]; decide))
  have u6 : decide (40 ≤ xs.length) = true := by simp [c6]
  have u6' : decide ((40 : Int) ≤ (xs.length : Int)) = true := by simp [c6]
  clear c3 c4 c6
  clear hNS0 hSG0 hIS0
  go_enter Try.func26, Try.ntmps26
  go_wp2_with (first | (go_at_call 52; refine (isDigest_any _ _).mono ?_; rintro e w' ⟨rfl, rfl⟩) | (go_at_call 45; refine (isKey_any _ _).mono ?_; rintro e w' ⟨rfl, rfl⟩) | (go_at_call 46; refine (isTime_any _ _).mono ?_; rintro e w' ⟨rfl, rfl⟩))
  refine (Certify_any ⟨n, t, ky, rf, o, nw, s⟩ _).mono ?_
  rw [HG.out, HV.out]
  rintro e w1 ⟨rfl, hb1⟩
  unfold certCells
  simp only
  have B1 : Below w.heap.size w w1 := bcall (by go_grown) hb1 (by go_size)
  have s1 := B1.size
  have q1 : w.heap.size + 2 ≤ w1.heap.size := by have h := hb1.size; first | omega | (simp at h; omega)
  have bah := (Box2.new (w.alloc (.cells #[.int .i64 n, .int .i64 t, .int .i64 ky, .string rf, .int .i64 o, .int .i64 nw, .int .i64 s] 23)) (.int .i64 0) (.int .i64 0) 26).below hb1 (by go_size)
  simp only [World.size_alloc] at bah
  obtain ⟨ba0, ba1, baf, bag, bal⟩ := bah
  have AB := ((Blk.new w [.int .i64 n, .int .i64 t, .int .i64 ky, .string rf, .int .i64 o, .int .i64 nw, .int .i64 s] 23 (g := w.heap.size) (by go_size)).alloc (.cells #[(.int .i64 0), (.int .i64 0)] 26)).below hb1 (by go_size)
  have A0 := AB.c 0 _ rfl
  have A1 := AB.c 1 _ rfl
  have A2 := AB.c 2 _ rfl
  have A3 := AB.c 3 _ rfl
  have A4 := AB.c 4 _ rfl
  have A5 := AB.c 5 _ rfl
  have A6 := AB.c 6 _ rfl
  have Af0 := AB.f 0 (Nat.le_of_ble_eq_true rfl)
  have Af1 := AB.f 1 (Nat.le_of_ble_eq_true rfl)
  have Af2 := AB.f 2 (Nat.le_of_ble_eq_true rfl)
  have Af3 := AB.f 3 (Nat.le_of_ble_eq_true rfl)
  have Af4 := AB.f 4 (Nat.le_of_ble_eq_true rfl)
  have Af5 := AB.f 5 (Nat.le_of_ble_eq_true rfl)
  have Af6 := AB.f 6 (Nat.le_of_ble_eq_true rfl)
  have Al := AB.lt
  replace hs := (hs.below (by go_grown) (Nat.le_refl _)).below hb1 (Nat.le_refl _)
  clear hb1
  go_wp2_with (first | (go_at_call 52; refine (isDigest_any _ _).mono ?_; rintro e w' ⟨rfl, rfl⟩) | (go_at_call 45; refine (isKey_any _ _).mono ?_; rintro e w' ⟨rfl, rfl⟩) | (go_at_call 46; refine (isTime_any _ _).mono ?_; rintro e w' ⟨rfl, rfl⟩))
  refine (checkUsed_any xs _ _ _ (hs.below (by go_grown) (Nat.le_refl _)) hm).mono ?_
  rw [HU.out]
  rintro e w2 ⟨rfl, hb2⟩
  have B2 : Below w.heap.size w w2 := bcall (by go_grown) hb2 (by go_size)
  have s2 := B2.size
  have q2 : w1.heap.size + 2 ≤ w2.heap.size := by have h := hb2.size; first | omega | (simp at h; omega)
  obtain ⟨ba0, ba1, baf, bag, bal⟩ := (((Box2.mk ba0 ba1 baf bag bal).alloc (.cells #[.int .i64 n, .int .i64 t, .int .i64 ky, .string rf, .int .i64 o, .int .i64 nw, .int .i64 SG] 23)).alloc (.cells #[(.int .i64 0), (.int .i64 0)] 26)).below hb2 (by go_size)
  have bbh := (Box2.new (w1.alloc (.cells #[.int .i64 n, .int .i64 t, .int .i64 ky, .string rf, .int .i64 o, .int .i64 nw, .int .i64 SG] 23)) (.int .i64 0) (.int .i64 0) 26).below hb2 (by go_size)
  simp only [World.size_alloc] at bbh
  obtain ⟨bb0, bb1, bbf, bbg, bbl⟩ := bbh
  clear A0 A1 A2 A3 A4 A5 A6 Af0 Af1 Af2 Af3 Af4 Af5 Af6 Al
  replace AB := ((AB.alloc (.cells #[.int .i64 n, .int .i64 t, .int .i64 ky, .string rf, .int .i64 o, .int .i64 nw, .int .i64 SG] 23)).alloc (.cells #[(.int .i64 0), (.int .i64 0)] 26)).below hb2 (by have h := AB.lt; go_size)
  have A0 := AB.c 0 _ rfl
  have A1 := AB.c 1 _ rfl
  have A2 := AB.c 2 _ rfl
  have A3 := AB.c 3 _ rfl
  have A4 := AB.c 4 _ rfl
  have A5 := AB.c 5 _ rfl
  have A6 := AB.c 6 _ rfl
  have Af0 := AB.f 0 (Nat.le_of_ble_eq_true rfl)
  have Af1 := AB.f 1 (Nat.le_of_ble_eq_true rfl)
  have Af2 := AB.f 2 (Nat.le_of_ble_eq_true rfl)
  have Af3 := AB.f 3 (Nat.le_of_ble_eq_true rfl)
  have Af4 := AB.f 4 (Nat.le_of_ble_eq_true rfl)
  have Af5 := AB.f 5 (Nat.le_of_ble_eq_true rfl)
  have Af6 := AB.f 6 (Nat.le_of_ble_eq_true rfl)
  have Al := AB.lt
  have ZB := ((Blk.new w1 [.int .i64 n, .int .i64 t, .int .i64 ky, .string rf, .int .i64 o, .int .i64 nw, .int .i64 SG] 23 (g := w1.heap.size) (by go_size)).alloc (.cells #[(.int .i64 0), (.int .i64 0)] 26)).below hb2 (by go_size)
  have Z0 := ZB.c 0 _ rfl
  have Z1 := ZB.c 1 _ rfl
  have Z2 := ZB.c 2 _ rfl
  have Z3 := ZB.c 3 _ rfl
  have Z4 := ZB.c 4 _ rfl
  have Z5 := ZB.c 5 _ rfl
  have Z6 := ZB.c 6 _ rfl
  have Zf0 := ZB.f 0 (Nat.le_of_ble_eq_true rfl)
  have Zf1 := ZB.f 1 (Nat.le_of_ble_eq_true rfl)
  have Zf2 := ZB.f 2 (Nat.le_of_ble_eq_true rfl)
  have Zf3 := ZB.f 3 (Nat.le_of_ble_eq_true rfl)
  have Zf4 := ZB.f 4 (Nat.le_of_ble_eq_true rfl)
  have Zf5 := ZB.f 5 (Nat.le_of_ble_eq_true rfl)
  have Zf6 := ZB.f 6 (Nat.le_of_ble_eq_true rfl)
  have Zl := ZB.lt
  replace hs := (hs.below (by go_grown) (Nat.le_refl _)).below hb2 (Nat.le_refl _)
  clear hb2
  go_wp2_with fail
  refine (Nonce_any secret t _).mono ?_
  rw [HN.out, HM.out]
  rintro e w3 ⟨rfl, hb3⟩
  have B3 : Below w.heap.size w w3 := bcall (by go_grown) hb3 (by go_size)
  have s3 := B3.size
  have q3 : w2.heap.size ≤ w3.heap.size := by have h := hb3.size; first | omega | (simp at h; omega)
  obtain ⟨ba0, ba1, baf, bag, bal⟩ := (Box2.mk ba0 ba1 baf bag bal).below hb3 (by go_size)
  obtain ⟨bb0, bb1, bbf, bbg, bbl⟩ := (Box2.mk bb0 bb1 bbf bbg bbl).below hb3 (by go_size)
  clear A0 A1 A2 A3 A4 A5 A6 Af0 Af1 Af2 Af3 Af4 Af5 Af6 Al
  replace AB := AB.below hb3 (by have h := AB.lt; go_size)
  have A0 := AB.c 0 _ rfl
  have A1 := AB.c 1 _ rfl
  have A2 := AB.c 2 _ rfl
  have A3 := AB.c 3 _ rfl
  have A4 := AB.c 4 _ rfl
  have A5 := AB.c 5 _ rfl
  have A6 := AB.c 6 _ rfl
  have Af0 := AB.f 0 (Nat.le_of_ble_eq_true rfl)
  have Af1 := AB.f 1 (Nat.le_of_ble_eq_true rfl)
  have Af2 := AB.f 2 (Nat.le_of_ble_eq_true rfl)
  have Af3 := AB.f 3 (Nat.le_of_ble_eq_true rfl)
  have Af4 := AB.f 4 (Nat.le_of_ble_eq_true rfl)
  have Af5 := AB.f 5 (Nat.le_of_ble_eq_true rfl)
  have Af6 := AB.f 6 (Nat.le_of_ble_eq_true rfl)
  have Al := AB.lt
  clear Z0 Z1 Z2 Z3 Z4 Z5 Z6 Zf0 Zf1 Zf2 Zf3 Zf4 Zf5 Zf6 Zl
  replace ZB := ZB.below hb3 (by have h := ZB.lt; go_size)
  have Z0 := ZB.c 0 _ rfl
  have Z1 := ZB.c 1 _ rfl
  have Z2 := ZB.c 2 _ rfl
  have Z3 := ZB.c 3 _ rfl
  have Z4 := ZB.c 4 _ rfl
  have Z5 := ZB.c 5 _ rfl
  have Z6 := ZB.c 6 _ rfl
  have Zf0 := ZB.f 0 (Nat.le_of_ble_eq_true rfl)
  have Zf1 := ZB.f 1 (Nat.le_of_ble_eq_true rfl)
  have Zf2 := ZB.f 2 (Nat.le_of_ble_eq_true rfl)
  have Zf3 := ZB.f 3 (Nat.le_of_ble_eq_true rfl)
  have Zf4 := ZB.f 4 (Nat.le_of_ble_eq_true rfl)
  have Zf5 := ZB.f 5 (Nat.le_of_ble_eq_true rfl)
  have Zf6 := ZB.f 6 (Nat.le_of_ble_eq_true rfl)
  have Zl := ZB.lt
  replace hs := hs.below hb3 (Nat.le_refl _)
  clear hb3
  go_wp2_with fail
  refine (BinSearch_any xs n _ _ _ (hs.below (by go_grown) (Nat.le_refl _)) (by omega) HP.out).mono ?_
  rw [HK.out, HIS.out]
  rintro e w4 ⟨rfl, hb4⟩
  have B4 : Below w.heap.size w w4 := bcall (by go_grown) hb4 (by go_size)
  have s4 := B4.size
  have q4 : w3.heap.size + 1 ≤ w4.heap.size := by have h := hb4.size; first | omega | (simp at h; omega)
  obtain ⟨ba0, ba1, baf, bag, bal⟩ := ((Box2.mk ba0 ba1 baf bag bal).alloc (.cells #[(.int .i64 0), (.int .i64 0)] 26)).below hb4 (by go_size)
  obtain ⟨bb0, bb1, bbf, bbg, bbl⟩ := ((Box2.mk bb0 bb1 bbf bbg bbl).alloc (.cells #[(.int .i64 0), (.int .i64 0)] 26)).below hb4 (by go_size)
  obtain ⟨bc0, bc1, bcf, bcg, bcl⟩ := (Box2.new w3 (.int .i64 0) (.int .i64 0) 26).below hb4 (by go_size)
  clear A0 A1 A2 A3 A4 A5 A6 Af0 Af1 Af2 Af3 Af4 Af5 Af6 Al
  replace AB := (AB.alloc (.cells #[(.int .i64 0), (.int .i64 0)] 26)).below hb4 (by have h := AB.lt; go_size)
  have A0 := AB.c 0 _ rfl
  have A1 := AB.c 1 _ rfl
  have A2 := AB.c 2 _ rfl
  have A3 := AB.c 3 _ rfl
  have A4 := AB.c 4 _ rfl
  have A5 := AB.c 5 _ rfl
  have A6 := AB.c 6 _ rfl
  have Af0 := AB.f 0 (Nat.le_of_ble_eq_true rfl)
  have Af1 := AB.f 1 (Nat.le_of_ble_eq_true rfl)
  have Af2 := AB.f 2 (Nat.le_of_ble_eq_true rfl)
  have Af3 := AB.f 3 (Nat.le_of_ble_eq_true rfl)
  have Af4 := AB.f 4 (Nat.le_of_ble_eq_true rfl)
  have Af5 := AB.f 5 (Nat.le_of_ble_eq_true rfl)
  have Af6 := AB.f 6 (Nat.le_of_ble_eq_true rfl)
  have Al := AB.lt
  clear Z0 Z1 Z2 Z3 Z4 Z5 Z6 Zf0 Zf1 Zf2 Zf3 Zf4 Zf5 Zf6 Zl
  replace ZB := (ZB.alloc (.cells #[(.int .i64 0), (.int .i64 0)] 26)).below hb4 (by have h := ZB.lt; go_size)
  have Z0 := ZB.c 0 _ rfl
  have Z1 := ZB.c 1 _ rfl
  have Z2 := ZB.c 2 _ rfl
  have Z3 := ZB.c 3 _ rfl
  have Z4 := ZB.c 4 _ rfl
  have Z5 := ZB.c 5 _ rfl
  have Z6 := ZB.c 6 _ rfl
  have Zf0 := ZB.f 0 (Nat.le_of_ble_eq_true rfl)
  have Zf1 := ZB.f 1 (Nat.le_of_ble_eq_true rfl)
  have Zf2 := ZB.f 2 (Nat.le_of_ble_eq_true rfl)
  have Zf3 := ZB.f 3 (Nat.le_of_ble_eq_true rfl)
  have Zf4 := ZB.f 4 (Nat.le_of_ble_eq_true rfl)
  have Zf5 := ZB.f 5 (Nat.le_of_ble_eq_true rfl)
  have Zf6 := ZB.f 6 (Nat.le_of_ble_eq_true rfl)
  have Zl := ZB.lt
  replace hs := (hs.below (by go_grown) (Nat.le_refl _)).below hb4 (Nat.le_refl _)
  clear hb4
  go_wp2_with fail
  refine bodyPost_ret (v := .tuple #[.slice none 0 0, .agg #[.int .i64 (14), .int .i64 (0)]]) (by simp [results, Try.results26, go_sem, ba0, ba1]) rfl (RIntsF.bad E.out E2.out (by go_grown))
end Go.Proofs.Ytkhkijpkgogncaa
