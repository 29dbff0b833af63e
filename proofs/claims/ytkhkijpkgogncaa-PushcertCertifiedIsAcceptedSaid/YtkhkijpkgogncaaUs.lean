/- The law PushcertCertifiedIsAccepted returns true. -/
import Derived.Test.YtkhkijpkgogncaaUn
namespace Go.Proofs.Ytkhkijpkgogncaa
open Go.RowKit

set_option maxRecDepth 100000 in
set_option maxHeartbeats 2000000 in
theorem PushcertCertifiedIsAccepted_bad (secret now window n t ky : Int) (rf : ByteArray) (o nw s : Int) (w : World) (hF : (Pl.nonceF secret t).1 ≠ 0) : Calls Try.prog 5 #[.int .i64 secret, .int .i64 now, .int .i64 window, .agg (certCells ⟨n, t, ky, rf, o, nw, s⟩).toArray] w fun e w' => e = .returned (.bool true) ∧ Below w.heap.size w w' := by
  obtain ⟨G, hG⟩ : ∃ G, Pl.nonceF secret t = G := ⟨_, rfl⟩
  have HV := Lib.hid (show Pl.nonceV secret t = 0 by rw [Pl.nonceV, if_neg hF])
  rw [hG] at hF
  have HF := Lib.hid hG
  have u1 : (G.1 == 0) = false := by simp [hF]
  have u2 : (G.1 != 0) = true := by simp [hF]
  clear hG hF
  unfold certCells
  simp only
  go_enter Try.func5, Try.ntmps5
  go_wp2_with fail
  refine (pushes_any _).mono ?_
  rintro e w1 ⟨rfl, hb1⟩
  have B1 : Below w.heap.size w w1 := bcall (by go_grown) hb1 (by go_size)
  have s1 := B1.size
  have q1 : w.heap.size + 1 ≤ w1.heap.size := by have h := hb1.size; first | omega | (simp at h; omega)
  have AB := (Blk.new w [.int .i64 n, .int .i64 t, .int .i64 ky, .string rf, .int .i64 o, .int .i64 nw, .int .i64 s] 23 (g := w.heap.size) (by go_size)).below hb1 (by go_size)
  have A0 := AB.c 0 _ rfl
  have A1 := AB.c 1 _ rfl
  have A2 := AB.c 2 _ rfl
  have A3 := AB.c 3 _ rfl
  have A4 := AB.c 4 _ rfl
  have A5 := AB.c 5 _ rfl
  have A6 := AB.c 6 _ rfl
  have Af0 := AB.f 0 (Nat.le_of_ble_eq_true rfl)
  have Af1 := AB.f 1 (Nat.le_of_ble_eq_true rfl)
  have Af2 := AB.f 2 (Nat.le_of_ble_eq_true rfl)
  have Af3 := AB.f 3 (Nat.le_of_ble_eq_true rfl)
  have Af4 := AB.f 4 (Nat.le_of_ble_eq_true rfl)
  have Af5 := AB.f 5 (Nat.le_of_ble_eq_true rfl)
  have Af6 := AB.f 6 (Nat.le_of_ble_eq_true rfl)
  have Al := AB.lt
  clear hb1
  go_wp2_with fail
  refine (Nonce_any secret t _).mono ?_
  rw [HF.out, HV.out]
  rintro e w2 ⟨rfl, hb2⟩
  have B2 : Below w.heap.size w w2 := bcall (by go_grown) hb2 (by go_size)
  have s2 := B2.size
  have q2 : w1.heap.size ≤ w2.heap.size := by have h := hb2.size; first | omega | (simp at h; omega)
  clear A0 A1 A2 A3 A4 A5 A6 Af0 Af1 Af2 Af3 Af4 Af5 Af6 Al
  replace AB := AB.below hb2 (by have h := AB.lt; go_size)
  have A0 := AB.c 0 _ rfl
  have A1 := AB.c 1 _ rfl
  have A2 := AB.c 2 _ rfl
  have A3 := AB.c 3 _ rfl
  have A4 := AB.c 4 _ rfl
  have A5 := AB.c 5 _ rfl
  have A6 := AB.c 6 _ rfl
  have Af0 := AB.f 0 (Nat.le_of_ble_eq_true rfl)
  have Af1 := AB.f 1 (Nat.le_of_ble_eq_true rfl)
  have Af2 := AB.f 2 (Nat.le_of_ble_eq_true rfl)
  have Af3 := AB.f 3 (Nat.le_of_ble_eq_true rfl)
  have Af4 := AB.f 4 (Nat.le_of_ble_eq_true rfl)
  have Af5 := AB.f 5 (Nat.le_of_ble_eq_true rfl)
  have Af6 := AB.f 6 (Nat.le_of_ble_eq_true rfl)
  have Al := AB.lt
  clear hb2
  go_wp2_with (first | (go_at_call 18; refine (lin_any _ _ _ _).mono ?_; rintro e w' ⟨rfl, rfl⟩))
  go_ret
  exact ⟨ret_true (by simp), by go_grown⟩
set_option maxRecDepth 100000 in
set_option maxHeartbeats 2000000 in
theorem PushcertCertifiedIsAccepted_now (secret now window n t ky : Int) (rf : ByteArray) (o nw s : Int) (w : World) (hk : Pl.isKeyB secret = true) (ht : Pl.isTimeB t = true) (h1 : Pl.inB now 0 100000 = false) : Calls Try.prog 5 #[.int .i64 secret, .int .i64 now, .int .i64 window, .agg (certCells ⟨n, t, ky, rf, o, nw, s⟩).toArray] w fun e w' => e = .returned (.bool true) ∧ Below w.heap.size w w' := by
  have HF := Lib.hid (show Pl.nonceF secret t = (0, 0) by rw [Pl.nonceF, hk]; rw [ht]; rfl)
  have HV := Lib.hid (show Pl.nonceV secret t = Pl.nonceS secret t by rw [Pl.nonceV, HF.out]; rfl)
  obtain ⟨NS, hNS⟩ : ∃ x, Pl.nonceS secret t = x := ⟨_, rfl⟩
  rw [hNS] at HV
  unfold certCells
  simp only
  go_enter Try.func5, Try.ntmps5
  go_wp2_with fail
  refine (pushes_any _).mono ?_
  rintro e w1 ⟨rfl, hb1⟩
  have B1 : Below w.heap.size w w1 := bcall (by go_grown) hb1 (by go_size)
  have s1 := B1.size
  have q1 : w.heap.size + 1 ≤ w1.heap.size := by have h := hb1.size; first | omega | (simp at h; omega)
  have AB := (Blk.new w [.int .i64 n, .int .i64 t, .int .i64 ky, .string rf, .int .i64 o, .int .i64 nw, .int .i64 s] 23 (g := w.heap.size) (by go_size)).below hb1 (by go_size)
  have A0 := AB.c 0 _ rfl
  have A1 := AB.c 1 _ rfl
  have A2 := AB.c 2 _ rfl
  have A3 := AB.c 3 _ rfl
  have A4 := AB.c 4 _ rfl
  have A5 := AB.c 5 _ rfl
  have A6 := AB.c 6 _ rfl
  have Af0 := AB.f 0 (Nat.le_of_ble_eq_true rfl)
  have Af1 := AB.f 1 (Nat.le_of_ble_eq_true rfl)
  have Af2 := AB.f 2 (Nat.le_of_ble_eq_true rfl)
  have Af3 := AB.f 3 (Nat.le_of_ble_eq_true rfl)
  have Af4 := AB.f 4 (Nat.le_of_ble_eq_true rfl)
  have Af5 := AB.f 5 (Nat.le_of_ble_eq_true rfl)
  have Af6 := AB.f 6 (Nat.le_of_ble_eq_true rfl)
  have Al := AB.lt
  clear hb1
  go_wp2_with fail
  refine (Nonce_any secret t _).mono ?_
  rw [HF.out, HV.out]
  rintro e w2 ⟨rfl, hb2⟩
  have B2 : Below w.heap.size w w2 := bcall (by go_grown) hb2 (by go_size)
  have s2 := B2.size
  have q2 : w1.heap.size ≤ w2.heap.size := by have h := hb2.size; first | omega | (simp at h; omega)
  clear A0 A1 A2 A3 A4 A5 A6 Af0 Af1 Af2 Af3 Af4 Af5 Af6 Al
  replace AB := AB.below hb2 (by have h := AB.lt; go_size)
  have A0 := AB.c 0 _ rfl
  have A1 := AB.c 1 _ rfl
  have A2 := AB.c 2 _ rfl
  have A3 := AB.c 3 _ rfl
  have A4 := AB.c 4 _ rfl
  have A5 := AB.c 5 _ rfl
  have A6 := AB.c 6 _ rfl
  have Af0 := AB.f 0 (Nat.le_of_ble_eq_true rfl)
  have Af1 := AB.f 1 (Nat.le_of_ble_eq_true rfl)
  have Af2 := AB.f 2 (Nat.le_of_ble_eq_true rfl)
  have Af3 := AB.f 3 (Nat.le_of_ble_eq_true rfl)
  have Af4 := AB.f 4 (Nat.le_of_ble_eq_true rfl)
  have Af5 := AB.f 5 (Nat.le_of_ble_eq_true rfl)
  have Af6 := AB.f 6 (Nat.le_of_ble_eq_true rfl)
  have Al := AB.lt
  clear hb2
  go_wp2_with (first | (go_at_call 18; refine (lin_any _ _ _ _).mono ?_; rintro e w' ⟨rfl, rfl⟩))
  go_ret
  exact ⟨ret_true (by simp), by go_grown⟩
set_option maxRecDepth 100000 in
set_option maxHeartbeats 2000000 in
theorem PushcertCertifiedIsAccepted_win (secret now window n t ky : Int) (rf : ByteArray) (o nw s : Int) (w : World) (hk : Pl.isKeyB secret = true) (ht : Pl.isTimeB t = true) (h1 : Pl.inB now 0 100000 = true) (h2 : Pl.inB window 0 100000 = false) : Calls Try.prog 5 #[.int .i64 secret, .int .i64 now, .int .i64 window, .agg (certCells ⟨n, t, ky, rf, o, nw, s⟩).toArray] w fun e w' => e = .returned (.bool true) ∧ Below w.heap.size w w' := by
  have HF := Lib.hid (show Pl.nonceF secret t = (0, 0) by rw [Pl.nonceF, hk]; rw [ht]; rfl)
  have HV := Lib.hid (show Pl.nonceV secret t = Pl.nonceS secret t by rw [Pl.nonceV, HF.out]; rfl)
  obtain ⟨NS, hNS⟩ : ∃ x, Pl.nonceS secret t = x := ⟨_, rfl⟩
  rw [hNS] at HV
  unfold certCells
  simp only
  go_enter Try.func5, Try.ntmps5
  go_wp2_with fail
  refine (pushes_any _).mono ?_
  rintro e w1 ⟨rfl, hb1⟩
  have B1 : Below w.heap.size w w1 := bcall (by go_grown) hb1 (by go_size)
  have s1 := B1.size
  have q1 : w.heap.size + 1 ≤ w1.heap.size := by have h := hb1.size; first | omega | (simp at h; omega)
  have AB := (Blk.new w [.int .i64 n, .int .i64 t, .int .i64 ky, .string rf, .int .i64 o, .int .i64 nw, .int .i64 s] 23 (g := w.heap.size) (by go_size)).below hb1 (by go_size)
  have A0 := AB.c 0 _ rfl
  have A1 := AB.c 1 _ rfl
  have A2 := AB.c 2 _ rfl
  have A3 := AB.c 3 _ rfl
  have A4 := AB.c 4 _ rfl
  have A5 := AB.c 5 _ rfl
  have A6 := AB.c 6 _ rfl
  have Af0 := AB.f 0 (Nat.le_of_ble_eq_true rfl)
  have Af1 := AB.f 1 (Nat.le_of_ble_eq_true rfl)
  have Af2 := AB.f 2 (Nat.le_of_ble_eq_true rfl)
  have Af3 := AB.f 3 (Nat.le_of_ble_eq_true rfl)
  have Af4 := AB.f 4 (Nat.le_of_ble_eq_true rfl)
  have Af5 := AB.f 5 (Nat.le_of_ble_eq_true rfl)
  have Af6 := AB.f 6 (Nat.le_of_ble_eq_true rfl)
  have Al := AB.lt
  clear hb1
  go_wp2_with fail
  refine (Nonce_any secret t _).mono ?_
  rw [HF.out, HV.out]
  rintro e w2 ⟨rfl, hb2⟩
  have B2 : Below w.heap.size w w2 := bcall (by go_grown) hb2 (by go_size)
  have s2 := B2.size
  have q2 : w1.heap.size ≤ w2.heap.size := by have h := hb2.size; first | omega | (simp at h; omega)
  clear A0 A1 A2 A3 A4 A5 A6 Af0 Af1 Af2 Af3 Af4 Af5 Af6 Al
  replace AB := AB.below hb2 (by have h := AB.lt; go_size)
  have A0 := AB.c 0 _ rfl
  have A1 := AB.c 1 _ rfl
  have A2 := AB.c 2 _ rfl
  have A3 := AB.c 3 _ rfl
  have A4 := AB.c 4 _ rfl
  have A5 := AB.c 5 _ rfl
  have A6 := AB.c 6 _ rfl
  have Af0 := AB.f 0 (Nat.le_of_ble_eq_true rfl)
  have Af1 := AB.f 1 (Nat.le_of_ble_eq_true rfl)
  have Af2 := AB.f 2 (Nat.le_of_ble_eq_true rfl)
  have Af3 := AB.f 3 (Nat.le_of_ble_eq_true rfl)
  have Af4 := AB.f 4 (Nat.le_of_ble_eq_true rfl)
  have Af5 := AB.f 5 (Nat.le_of_ble_eq_true rfl)
  have Af6 := AB.f 6 (Nat.le_of_ble_eq_true rfl)
  have Al := AB.lt
  clear hb2
  go_wp2_with (first | (go_at_call 18; refine (lin_any _ _ _ _).mono ?_; rintro e w' ⟨rfl, rfl⟩))
  go_ret
  exact ⟨ret_true (by simp), by go_grown⟩
set_option maxRecDepth 100000 in
set_option maxHeartbeats 2000000 in
theorem PushcertCertifiedIsAccepted_cert (secret now window n t ky : Int) (rf : ByteArray) (o nw s : Int) (w : World) (hk : Pl.isKeyB secret = true) (ht : Pl.isTimeB t = true) (h1 : Pl.inB now 0 100000 = true) (h2 : Pl.inB window 0 100000 = true) (hC : (Pl.certF ⟨Pl.nonceS secret t, t, ky, rf, o, nw, s⟩).1 ≠ 0) : Calls Try.prog 5 #[.int .i64 secret, .int .i64 now, .int .i64 window, .agg (certCells ⟨n, t, ky, rf, o, nw, s⟩).toArray] w fun e w' => e = .returned (.bool true) ∧ Below w.heap.size w w' := by
  have HF := Lib.hid (show Pl.nonceF secret t = (0, 0) by rw [Pl.nonceF, hk]; rw [ht]; rfl)
  have HV := Lib.hid (show Pl.nonceV secret t = Pl.nonceS secret t by rw [Pl.nonceV, HF.out]; rfl)
  obtain ⟨NS, hNS⟩ : ∃ x, Pl.nonceS secret t = x := ⟨_, rfl⟩
  rw [hNS] at HV
  rw [hNS] at hC
  obtain ⟨G, hG⟩ : ∃ G, Pl.certF ⟨NS, t, ky, rf, o, nw, s⟩ = G := ⟨_, rfl⟩
  have HW := Lib.hid (show Pl.certV ⟨NS, t, ky, rf, o, nw, s⟩ = Pl.Cert.zero by rw [Pl.certV, if_neg hC])
  rw [hG] at hC
  have HG := Lib.hid hG
  have u1 : (G.1 == 0) = false := by simp [hC]
  have u2 : (G.1 != 0) = true := by simp [hC]
  clear hG hC
  unfold certCells
  simp only
  go_enter Try.func5, Try.ntmps5
  go_wp2_with fail
  refine (pushes_any _).mono ?_
  rintro e w1 ⟨rfl, hb1⟩
  have B1 : Below w.heap.size w w1 := bcall (by go_grown) hb1 (by go_size)
  have s1 := B1.size
  have q1 : w.heap.size + 1 ≤ w1.heap.size := by have h := hb1.size; first | omega | (simp at h; omega)
  have AB := (Blk.new w [.int .i64 n, .int .i64 t, .int .i64 ky, .string rf, .int .i64 o, .int .i64 nw, .int .i64 s] 23 (g := w.heap.size) (by go_size)).below hb1 (by go_size)
  have A0 := AB.c 0 _ rfl
  have A1 := AB.c 1 _ rfl
  have A2 := AB.c 2 _ rfl
  have A3 := AB.c 3 _ rfl
  have A4 := AB.c 4 _ rfl
  have A5 := AB.c 5 _ rfl
  have A6 := AB.c 6 _ rfl
  have Af0 := AB.f 0 (Nat.le_of_ble_eq_true rfl)
  have Af1 := AB.f 1 (Nat.le_of_ble_eq_true rfl)
  have Af2 := AB.f 2 (Nat.le_of_ble_eq_true rfl)
  have Af3 := AB.f 3 (Nat.le_of_ble_eq_true rfl)
  have Af4 := AB.f 4 (Nat.le_of_ble_eq_true rfl)
  have Af5 := AB.f 5 (Nat.le_of_ble_eq_true rfl)
  have Af6 := AB.f 6 (Nat.le_of_ble_eq_true rfl)
  have Al := AB.lt
  clear hb1
  go_wp2_with fail
  refine (Nonce_any secret t _).mono ?_
  rw [HF.out, HV.out]
  rintro e w2 ⟨rfl, hb2⟩
  have B2 : Below w.heap.size w w2 := bcall (by go_grown) hb2 (by go_size)
  have s2 := B2.size
  have q2 : w1.heap.size ≤ w2.heap.size := by have h := hb2.size; first | omega | (simp at h; omega)
  clear A0 A1 A2 A3 A4 A5 A6 Af0 Af1 Af2 Af3 Af4 Af5 Af6 Al
  replace AB := AB.below hb2 (by have h := AB.lt; go_size)
  have A0 := AB.c 0 _ rfl
  have A1 := AB.c 1 _ rfl
  have A2 := AB.c 2 _ rfl
  have A3 := AB.c 3 _ rfl
  have A4 := AB.c 4 _ rfl
  have A5 := AB.c 5 _ rfl
  have A6 := AB.c 6 _ rfl
  have Af0 := AB.f 0 (Nat.le_of_ble_eq_true rfl)
  have Af1 := AB.f 1 (Nat.le_of_ble_eq_true rfl)
  have Af2 := AB.f 2 (Nat.le_of_ble_eq_true rfl)
  have Af3 := AB.f 3 (Nat.le_of_ble_eq_true rfl)
  have Af4 := AB.f 4 (Nat.le_of_ble_eq_true rfl)
  have Af5 := AB.f 5 (Nat.le_of_ble_eq_true rfl)
  have Af6 := AB.f 6 (Nat.le_of_ble_eq_true rfl)
  have Al := AB.lt
  clear hb2
  go_wp2_with (first | (go_at_call 18; refine (lin_any _ _ _ _).mono ?_; rintro e w' ⟨rfl, rfl⟩))
  refine (Certify_any ⟨NS, t, ky, rf, o, nw, s⟩ _).mono ?_
  rw [HG.out, HW.out]
  rintro e w3 ⟨rfl, hb3⟩
  unfold certCells Pl.Cert.zero
  simp only
  have B3 : Below w.heap.size w w3 := bcall (by go_grown) hb3 (by go_size)
  have s3 := B3.size
  have q3 : w2.heap.size + 1 ≤ w3.heap.size := by have h := hb3.size; first | omega | (simp at h; omega)
  obtain ⟨ba0, ba1, baf, bag, bal⟩ := (Box2.new (w2.setCell ⟨w.heap.size, 0, none⟩ (.int .i64 NS)) (.int .i64 0) (.int .i64 0) 26).below hb3 (by go_size)
  clear A0 A1 A2 A3 A4 A5 A6 Af0 Af1 Af2 Af3 Af4 Af5 Af6 Al
  replace AB : Blk w3 (w.heap.size) [.int .i64 NS, .int .i64 t, .int .i64 ky, .string rf, .int .i64 o, .int .i64 nw, .int .i64 s] := ((AB.set (k := 0) (Nat.le_of_ble_eq_true rfl) (.int .i64 NS)).alloc (.cells #[(.int .i64 0), (.int .i64 0)] 26)).below hb3 (by have h := AB.lt; go_size)
  have A0 := AB.c 0 _ rfl
  have A1 := AB.c 1 _ rfl
  have A2 := AB.c 2 _ rfl
  have A3 := AB.c 3 _ rfl
  have A4 := AB.c 4 _ rfl
  have A5 := AB.c 5 _ rfl
  have A6 := AB.c 6 _ rfl
  have Af0 := AB.f 0 (Nat.le_of_ble_eq_true rfl)
  have Af1 := AB.f 1 (Nat.le_of_ble_eq_true rfl)
  have Af2 := AB.f 2 (Nat.le_of_ble_eq_true rfl)
  have Af3 := AB.f 3 (Nat.le_of_ble_eq_true rfl)
  have Af4 := AB.f 4 (Nat.le_of_ble_eq_true rfl)
  have Af5 := AB.f 5 (Nat.le_of_ble_eq_true rfl)
  have Af6 := AB.f 6 (Nat.le_of_ble_eq_true rfl)
  have Al := AB.lt
  clear hb3
  go_wp2_with fail
  go_ret
  exact ⟨ret_true (by simp), by go_grown⟩
set_option maxRecDepth 100000 in
set_option maxHeartbeats 2000000 in
theorem PushcertCertifiedIsAccepted_new (secret now window n t ky : Int) (rf : ByteArray) (o nw s : Int) (w : World) (hk : Pl.isKeyB secret = true) (ht : Pl.isTimeB t = true) (h1 : Pl.inB now 0 100000 = true) (h2 : Pl.inB window 0 100000 = true) (hC : Pl.certF ⟨Pl.nonceS secret t, t, ky, rf, o, nw, s⟩ = (0, 0)) (c1 : decide (now < t) = true) : Calls Try.prog 5 #[.int .i64 secret, .int .i64 now, .int .i64 window, .agg (certCells ⟨n, t, ky, rf, o, nw, s⟩).toArray] w fun e w' => e = .returned (.bool true) ∧ Below w.heap.size w w' := by
  have HF := Lib.hid (show Pl.nonceF secret t = (0, 0) by rw [Pl.nonceF, hk]; rw [ht]; rfl)
  have HV := Lib.hid (show Pl.nonceV secret t = Pl.nonceS secret t by rw [Pl.nonceV, HF.out]; rfl)
  obtain ⟨NS, hNS⟩ : ∃ x, Pl.nonceS secret t = x := ⟨_, rfl⟩
  rw [hNS] at HV
  rw [hNS] at hC
  have HG := Lib.hid hC
  have HW := Lib.hid (show Pl.certV ⟨NS, t, ky, rf, o, nw, s⟩ = ⟨NS, t, ky, rf, o, nw, Pl.certS ⟨NS, t, ky, rf, o, nw, s⟩⟩ by rw [Pl.certV, if_pos (by rw [hC])]; rfl)
  have HP := Pl.pushF_signed hC hk (show Pl.isTimeB now = true from h1) (show Pl.isTimeB window = true from h2) (show NS = Pl.nonceS secret t from hNS.symm)
  simp only [Pl.Cert.signed] at HP
  obtain ⟨SG, hSG⟩ : ∃ x, Pl.certS ⟨NS, t, ky, rf, o, nw, s⟩ = x := ⟨_, rfl⟩
  rw [hSG] at HW HP
  have HQ := Lib.hid (show Pl.pushF secret now window [] ⟨NS, t, ky, rf, o, nw, SG⟩ = (16, 0) by rw [HP, if_pos (by simp [c1])])
  have HX := Lib.hid (show Pl.pushV secret now window [] ⟨NS, t, ky, rf, o, nw, SG⟩ = [] by rw [Pl.pushV, HQ.out]; rfl)
  clear HP
  have b1 := Pl.inB_true.1 h1
  have b2 := Pl.inB_true.1 h2
  have ew : IntKind.i64.wrap (now - window) = now - window := IntWalk.i64_in _ (by omega)
  clear b1 b2 hNS hSG hC
  
  unfold certCells
  simp only
  go_enter Try.func5, Try.ntmps5
  go_wp2_with fail
  refine (pushes_any _).mono ?_
  rintro e w1 ⟨rfl, hb1⟩
  have B1 : Below w.heap.size w w1 := bcall (by go_grown) hb1 (by go_size)
  have s1 := B1.size
  have q1 : w.heap.size + 1 ≤ w1.heap.size := by have h := hb1.size; first | omega | (simp at h; omega)
  have AB := (Blk.new w [.int .i64 n, .int .i64 t, .int .i64 ky, .string rf, .int .i64 o, .int .i64 nw, .int .i64 s] 23 (g := w.heap.size) (by go_size)).below hb1 (by go_size)
  have A0 := AB.c 0 _ rfl
  have A1 := AB.c 1 _ rfl
  have A2 := AB.c 2 _ rfl
  have A3 := AB.c 3 _ rfl
  have A4 := AB.c 4 _ rfl
  have A5 := AB.c 5 _ rfl
  have A6 := AB.c 6 _ rfl
  have Af0 := AB.f 0 (Nat.le_of_ble_eq_true rfl)
  have Af1 := AB.f 1 (Nat.le_of_ble_eq_true rfl)
  have Af2 := AB.f 2 (Nat.le_of_ble_eq_true rfl)
  have Af3 := AB.f 3 (Nat.le_of_ble_eq_true rfl)
  have Af4 := AB.f 4 (Nat.le_of_ble_eq_true rfl)
  have Af5 := AB.f 5 (Nat.le_of_ble_eq_true rfl)
  have Af6 := AB.f 6 (Nat.le_of_ble_eq_true rfl)
  have Al := AB.lt
  clear hb1
  go_wp2_with fail
  refine (Nonce_any secret t _).mono ?_
  rw [HF.out, HV.out]
  rintro e w2 ⟨rfl, hb2⟩
  have B2 : Below w.heap.size w w2 := bcall (by go_grown) hb2 (by go_size)
  have s2 := B2.size
  have q2 : w1.heap.size ≤ w2.heap.size := by have h := hb2.size; first | omega | (simp at h; omega)
  clear A0 A1 A2 A3 A4 A5 A6 Af0 Af1 Af2 Af3 Af4 Af5 Af6 Al
  replace AB := AB.below hb2 (by have h := AB.lt; go_size)
  have A0 := AB.c 0 _ rfl
  have A1 := AB.c 1 _ rfl
  have A2 := AB.c 2 _ rfl
  have A3 := AB.c 3 _ rfl
  have A4 := AB.c 4 _ rfl
  have A5 := AB.c 5 _ rfl
  have A6 := AB.c 6 _ rfl
  have Af0 := AB.f 0 (Nat.le_of_ble_eq_true rfl)
  have Af1 := AB.f 1 (Nat.le_of_ble_eq_true rfl)
  have Af2 := AB.f 2 (Nat.le_of_ble_eq_true rfl)
  have Af3 := AB.f 3 (Nat.le_of_ble_eq_true rfl)
  have Af4 := AB.f 4 (Nat.le_of_ble_eq_true rfl)
  have Af5 := AB.f 5 (Nat.le_of_ble_eq_true rfl)
  have Af6 := AB.f 6 (Nat.le_of_ble_eq_true rfl)
  have Al := AB.lt
  clear hb2
  go_wp2_with (first | (go_at_call 18; refine (lin_any _ _ _ _).mono ?_; rintro e w' ⟨rfl, rfl⟩))
  refine (Certify_any ⟨NS, t, ky, rf, o, nw, s⟩ _).mono ?_
  rw [HG.out, HW.out]
  rintro e w3 ⟨rfl, hb3⟩
  unfold certCells
  simp only
  have B3 : Below w.heap.size w w3 := bcall (by go_grown) hb3 (by go_size)
  have s3 := B3.size
  have q3 : w2.heap.size + 1 ≤ w3.heap.size := by have h := hb3.size; first | omega | (simp at h; omega)
  obtain ⟨ba0, ba1, baf, bag, bal⟩ := (Box2.new (w2.setCell ⟨w.heap.size, 0, none⟩ (.int .i64 NS)) (.int .i64 0) (.int .i64 0) 26).below hb3 (by go_size)
  clear A0 A1 A2 A3 A4 A5 A6 Af0 Af1 Af2 Af3 Af4 Af5 Af6 Al
  replace AB : Blk w3 (w.heap.size) [.int .i64 NS, .int .i64 t, .int .i64 ky, .string rf, .int .i64 o, .int .i64 nw, .int .i64 s] := ((AB.set (k := 0) (Nat.le_of_ble_eq_true rfl) (.int .i64 NS)).alloc (.cells #[(.int .i64 0), (.int .i64 0)] 26)).below hb3 (by have h := AB.lt; go_size)
  have A0 := AB.c 0 _ rfl
  have A1 := AB.c 1 _ rfl
  have A2 := AB.c 2 _ rfl
  have A3 := AB.c 3 _ rfl
  have A4 := AB.c 4 _ rfl
  have A5 := AB.c 5 _ rfl
  have A6 := AB.c 6 _ rfl
  have Af0 := AB.f 0 (Nat.le_of_ble_eq_true rfl)
  have Af1 := AB.f 1 (Nat.le_of_ble_eq_true rfl)
  have Af2 := AB.f 2 (Nat.le_of_ble_eq_true rfl)
  have Af3 := AB.f 3 (Nat.le_of_ble_eq_true rfl)
  have Af4 := AB.f 4 (Nat.le_of_ble_eq_true rfl)
  have Af5 := AB.f 5 (Nat.le_of_ble_eq_true rfl)
  have Af6 := AB.f 6 (Nat.le_of_ble_eq_true rfl)
  have Al := AB.lt
  clear hb3
  go_wp2_with fail
  refine (Check_any secret now window [] ⟨NS, t, ky, rf, o, nw, SG⟩ none 0 _ (Sl.nil _ _) (by decide)).mono ?_
  rw [HQ.out, HX.out]
  rintro e w4 ⟨o4, k4, rfl, own4, hb4⟩
  clear own4
  simp only [List.length_nil]
  have B4 : Below w.heap.size w w4 := bcall (by go_grown) hb4 (by go_size)
  have s4 := B4.size
  have q4 : w3.heap.size + 2 ≤ w4.heap.size := by have h := hb4.size; first | omega | (simp at h; omega)
  obtain ⟨ba0, ba1, baf, bag, bal⟩ := (((Box2.mk ba0 ba1 baf bag bal).alloc (.cells #[.int .i64 NS, .int .i64 t, .int .i64 ky, .string rf, .int .i64 o, .int .i64 nw, .int .i64 SG] 23)).alloc (.cells #[(.int .i64 0), (.int .i64 0)] 26)).below hb4 (by go_size)
  have bbh := (Box2.new (w3.alloc (.cells #[.int .i64 NS, .int .i64 t, .int .i64 ky, .string rf, .int .i64 o, .int .i64 nw, .int .i64 SG] 23)) (.int .i64 0) (.int .i64 0) 26).below hb4 (by go_size)
  simp only [World.size_alloc] at bbh
  obtain ⟨bb0, bb1, bbf, bbg, bbl⟩ := bbh
  clear A0 A1 A2 A3 A4 A5 A6 Af0 Af1 Af2 Af3 Af4 Af5 Af6 Al
  replace AB := ((AB.alloc (.cells #[.int .i64 NS, .int .i64 t, .int .i64 ky, .string rf, .int .i64 o, .int .i64 nw, .int .i64 SG] 23)).alloc (.cells #[(.int .i64 0), (.int .i64 0)] 26)).below hb4 (by have h := AB.lt; go_size)
  have A0 := AB.c 0 _ rfl
  have A1 := AB.c 1 _ rfl
  have A2 := AB.c 2 _ rfl
  have A3 := AB.c 3 _ rfl
  have A4 := AB.c 4 _ rfl
  have A5 := AB.c 5 _ rfl
  have A6 := AB.c 6 _ rfl
  have Af0 := AB.f 0 (Nat.le_of_ble_eq_true rfl)
  have Af1 := AB.f 1 (Nat.le_of_ble_eq_true rfl)
  have Af2 := AB.f 2 (Nat.le_of_ble_eq_true rfl)
  have Af3 := AB.f 3 (Nat.le_of_ble_eq_true rfl)
  have Af4 := AB.f 4 (Nat.le_of_ble_eq_true rfl)
  have Af5 := AB.f 5 (Nat.le_of_ble_eq_true rfl)
  have Af6 := AB.f 6 (Nat.le_of_ble_eq_true rfl)
  have Al := AB.lt
  have VB := ((Blk.new w3 [.int .i64 NS, .int .i64 t, .int .i64 ky, .string rf, .int .i64 o, .int .i64 nw, .int .i64 SG] 23 (g := w3.heap.size) (by go_size)).alloc (.cells #[(.int .i64 0), (.int .i64 0)] 26)).below hb4 (by go_size)
  have V0 := VB.c 0 _ rfl
  have V1 := VB.c 1 _ rfl
  have V2 := VB.c 2 _ rfl
  have V3 := VB.c 3 _ rfl
  have V4 := VB.c 4 _ rfl
  have V5 := VB.c 5 _ rfl
  have V6 := VB.c 6 _ rfl
  have Vf0 := VB.f 0 (Nat.le_of_ble_eq_true rfl)
  have Vf1 := VB.f 1 (Nat.le_of_ble_eq_true rfl)
  have Vf2 := VB.f 2 (Nat.le_of_ble_eq_true rfl)
  have Vf3 := VB.f 3 (Nat.le_of_ble_eq_true rfl)
  have Vf4 := VB.f 4 (Nat.le_of_ble_eq_true rfl)
  have Vf5 := VB.f 5 (Nat.le_of_ble_eq_true rfl)
  have Vf6 := VB.f 6 (Nat.le_of_ble_eq_true rfl)
  have Vl := VB.lt
  clear hb4
  go_wp2_with fail
  refine wp_region_ord [0, 1, 2, 3] (by kernel_rfl) (by kernel_rfl) ?_
  repeat (refine wpI_rd rfl rfl ?_; go_big_quiet_step (fail); refine wpQuiet_nil ?_)
  refine wpI_call (f := 17) (args := #[.int .i64 16, .int .i64 0]) rfl rfl rfl (by simp [go_sem]) ?_
  refine (fault_any _ _ _).mono ?_
  rintro e w5 ⟨rfl, hb5⟩
  refine ⟨_, rfl, hb5, ?_⟩
  have B5 : Below w.heap.size w w5 := bcall (by go_grown) hb5 (by go_size)
  have s5 := B5.size
  have q5 : w4.heap.size + 1 ≤ w5.heap.size := by have h := hb5.size; first | omega | (simp at h; omega)
  obtain ⟨ba0, ba1, baf, bag, bal⟩ := ((Box2.mk ba0 ba1 baf bag bal).alloc (.cells #[(.int .i64 16), (.int .i64 0)] 26)).drew.below hb5 (by go_size)
  obtain ⟨bb0, bb1, bbf, bbg, bbl⟩ := ((Box2.mk bb0 bb1 bbf bbg bbl).alloc (.cells #[(.int .i64 16), (.int .i64 0)] 26)).drew.below hb5 (by go_size)
  obtain ⟨bc0, bc1, bcf, bcg, bcl⟩ := (Box2.new w4 (.int .i64 16) (.int .i64 0) 26).drew.below hb5 (by go_size)
  clear A0 A1 A2 A3 A4 A5 A6 Af0 Af1 Af2 Af3 Af4 Af5 Af6 Al
  replace AB := (AB.alloc (.cells #[(.int .i64 16), (.int .i64 0)] 26)).drew.below hb5 (by have h := AB.lt; go_size)
  have A0 := AB.c 0 _ rfl
  have A1 := AB.c 1 _ rfl
  have A2 := AB.c 2 _ rfl
  have A3 := AB.c 3 _ rfl
  have A4 := AB.c 4 _ rfl
  have A5 := AB.c 5 _ rfl
  have A6 := AB.c 6 _ rfl
  have Af0 := AB.f 0 (Nat.le_of_ble_eq_true rfl)
  have Af1 := AB.f 1 (Nat.le_of_ble_eq_true rfl)
  have Af2 := AB.f 2 (Nat.le_of_ble_eq_true rfl)
  have Af3 := AB.f 3 (Nat.le_of_ble_eq_true rfl)
  have Af4 := AB.f 4 (Nat.le_of_ble_eq_true rfl)
  have Af5 := AB.f 5 (Nat.le_of_ble_eq_true rfl)
  have Af6 := AB.f 6 (Nat.le_of_ble_eq_true rfl)
  have Al := AB.lt
  clear V0 V1 V2 V3 V4 V5 V6 Vf0 Vf1 Vf2 Vf3 Vf4 Vf5 Vf6 Vl
  replace VB := (VB.alloc (.cells #[(.int .i64 16), (.int .i64 0)] 26)).drew.below hb5 (by have h := VB.lt; go_size)
  have V0 := VB.c 0 _ rfl
  have V1 := VB.c 1 _ rfl
  have V2 := VB.c 2 _ rfl
  have V3 := VB.c 3 _ rfl
  have V4 := VB.c 4 _ rfl
  have V5 := VB.c 5 _ rfl
  have V6 := VB.c 6 _ rfl
  have Vf0 := VB.f 0 (Nat.le_of_ble_eq_true rfl)
  have Vf1 := VB.f 1 (Nat.le_of_ble_eq_true rfl)
  have Vf2 := VB.f 2 (Nat.le_of_ble_eq_true rfl)
  have Vf3 := VB.f 3 (Nat.le_of_ble_eq_true rfl)
  have Vf4 := VB.f 4 (Nat.le_of_ble_eq_true rfl)
  have Vf5 := VB.f 5 (Nat.le_of_ble_eq_true rfl)
  have Vf6 := VB.f 6 (Nat.le_of_ble_eq_true rfl)
  have Vl := VB.lt
  clear hb5
  try simp only [Act.put, List.setIfInBounds_toArray, List.set_cons_zero, List.set_cons_succ]
  repeat (refine wpI_rd rfl rfl ?_; go_big_quiet_step (fail); refine wpQuiet_nil ?_)
  refine wpI_nil ?_
  try simp only [Act.put, List.setIfInBounds_toArray, List.set_cons_zero, List.set_cons_succ]
  go_wp2_with fail
  go_ret
  exact ⟨ret_true (by simp), by go_grown⟩
set_option maxRecDepth 100000 in
set_option maxHeartbeats 2000000 in
theorem PushcertCertifiedIsAccepted_old (secret now window n t ky : Int) (rf : ByteArray) (o nw s : Int) (w : World) (hk : Pl.isKeyB secret = true) (ht : Pl.isTimeB t = true) (h1 : Pl.inB now 0 100000 = true) (h2 : Pl.inB window 0 100000 = true) (hC : Pl.certF ⟨Pl.nonceS secret t, t, ky, rf, o, nw, s⟩ = (0, 0)) (c1 : decide (now < t) = false) (c2 : decide (t < now - window) = true) : Calls Try.prog 5 #[.int .i64 secret, .int .i64 now, .int .i64 window, .agg (certCells ⟨n, t, ky, rf, o, nw, s⟩).toArray] w fun e w' => e = .returned (.bool true) ∧ Below w.heap.size w w' := by
  have HF := Lib.hid (show Pl.nonceF secret t = (0, 0) by rw [Pl.nonceF, hk]; rw [ht]; rfl)
  have HV := Lib.hid (show Pl.nonceV secret t = Pl.nonceS secret t by rw [Pl.nonceV, HF.out]; rfl)
  obtain ⟨NS, hNS⟩ : ∃ x, Pl.nonceS secret t = x := ⟨_, rfl⟩
  rw [hNS] at HV
  rw [hNS] at hC
  have HG := Lib.hid hC
  have HW := Lib.hid (show Pl.certV ⟨NS, t, ky, rf, o, nw, s⟩ = ⟨NS, t, ky, rf, o, nw, Pl.certS ⟨NS, t, ky, rf, o, nw, s⟩⟩ by rw [Pl.certV, if_pos (by rw [hC])]; rfl)
  have HP := Pl.pushF_signed hC hk (show Pl.isTimeB now = true from h1) (show Pl.isTimeB window = true from h2) (show NS = Pl.nonceS secret t from hNS.symm)
  simp only [Pl.Cert.signed] at HP
  obtain ⟨SG, hSG⟩ : ∃ x, Pl.certS ⟨NS, t, ky, rf, o, nw, s⟩ = x := ⟨_, rfl⟩
  rw [hSG] at HW HP
  have HQ := Lib.hid (show Pl.pushF secret now window [] ⟨NS, t, ky, rf, o, nw, SG⟩ = (16, 0) by rw [HP, if_pos (by simp [c2])])
  have HX := Lib.hid (show Pl.pushV secret now window [] ⟨NS, t, ky, rf, o, nw, SG⟩ = [] by rw [Pl.pushV, HQ.out]; rfl)
  clear HP
  have b1 := Pl.inB_true.1 h1
  have b2 := Pl.inB_true.1 h2
  have ew : IntKind.i64.wrap (now - window) = now - window := IntWalk.i64_in _ (by omega)
  clear b1 b2 hNS hSG hC
  
  unfold certCells
  simp only
  go_enter Try.func5, Try.ntmps5
  go_wp2_with fail
  refine (pushes_any _).mono ?_
  rintro e w1 ⟨rfl, hb1⟩
  have B1 : Below w.heap.size w w1 := bcall (by go_grown) hb1 (by go_size)
  have s1 := B1.size
  have q1 : w.heap.size + 1 ≤ w1.heap.size := by have h := hb1.size; first | omega | (simp at h; omega)
  have AB := (Blk.new w [.int .i64 n, .int .i64 t, .int .i64 ky, .string rf, .int .i64 o, .int .i64 nw, .int .i64 s] 23 (g := w.heap.size) (by go_size)).below hb1 (by go_size)
  have A0 := AB.c 0 _ rfl
  have A1 := AB.c 1 _ rfl
  have A2 := AB.c 2 _ rfl
  have A3 := AB.c 3 _ rfl
  have A4 := AB.c 4 _ rfl
  have A5 := AB.c 5 _ rfl
  have A6 := AB.c 6 _ rfl
  have Af0 := AB.f 0 (Nat.le_of_ble_eq_true rfl)
  have Af1 := AB.f 1 (Nat.le_of_ble_eq_true rfl)
  have Af2 := AB.f 2 (Nat.le_of_ble_eq_true rfl)
  have Af3 := AB.f 3 (Nat.le_of_ble_eq_true rfl)
  have Af4 := AB.f 4 (Nat.le_of_ble_eq_true rfl)
  have Af5 := AB.f 5 (Nat.le_of_ble_eq_true rfl)
  have Af6 := AB.f 6 (Nat.le_of_ble_eq_true rfl)
  have Al := AB.lt
  clear hb1
  go_wp2_with fail
  refine (Nonce_any secret t _).mono ?_
  rw [HF.out, HV.out]
  rintro e w2 ⟨rfl, hb2⟩
  have B2 : Below w.heap.size w w2 := bcall (by go_grown) hb2 (by go_size)
  have s2 := B2.size
  have q2 : w1.heap.size ≤ w2.heap.size := by have h := hb2.size; first | omega | (simp at h; omega)
  clear A0 A1 A2 A3 A4 A5 A6 Af0 Af1 Af2 Af3 Af4 Af5 Af6 Al
  replace AB := AB.below hb2 (by have h := AB.lt; go_size)
  have A0 := AB.c 0 _ rfl
  have A1 := AB.c 1 _ rfl
  have A2 := AB.c 2 _ rfl
  have A3 := AB.c 3 _ rfl
  have A4 := AB.c 4 _ rfl
  have A5 := AB.c 5 _ rfl
  have A6 := AB.c 6 _ rfl
  have Af0 := AB.f 0 (Nat.le_of_ble_eq_true rfl)
  have Af1 := AB.f 1 (Nat.le_of_ble_eq_true rfl)
  have Af2 := AB.f 2 (Nat.le_of_ble_eq_true rfl)
  have Af3 := AB.f 3 (Nat.le_of_ble_eq_true rfl)
  have Af4 := AB.f 4 (Nat.le_of_ble_eq_true rfl)
  have Af5 := AB.f 5 (Nat.le_of_ble_eq_true rfl)
  have Af6 := AB.f 6 (Nat.le_of_ble_eq_true rfl)
  have Al := AB.lt
  clear hb2
  go_wp2_with (first | (go_at_call 18; refine (lin_any _ _ _ _).mono ?_; rintro e w' ⟨rfl, rfl⟩))
  refine (Certify_any ⟨NS, t, ky, rf, o, nw, s⟩ _).mono ?_
  rw [HG.out, HW.out]
  rintro e w3 ⟨rfl, hb3⟩
  unfold certCells
  simp only
  have B3 : Below w.heap.size w w3 := bcall (by go_grown) hb3 (by go_size)
  have s3 := B3.size
  have q3 : w2.heap.size + 1 ≤ w3.heap.size := by have h := hb3.size; first | omega | (simp at h; omega)
  obtain ⟨ba0, ba1, baf, bag, bal⟩ := (Box2.new (w2.setCell ⟨w.heap.size, 0, none⟩ (.int .i64 NS)) (.int .i64 0) (.int .i64 0) 26).below hb3 (by go_size)
  clear A0 A1 A2 A3 A4 A5 A6 Af0 Af1 Af2 Af3 Af4 Af5 Af6 Al
  replace AB : Blk w3 (w.heap.size) [.int .i64 NS, .int .i64 t, .int .i64 ky, .string rf, .int .i64 o, .int .i64 nw, .int .i64 s] := ((AB.set (k := 0) (Nat.le_of_ble_eq_true rfl) (.int .i64 NS)).alloc (.cells #[(.int .i64 0), (.int .i64 0)] 26)).below hb3 (by have h := AB.lt; go_size)
  have A0 := AB.c 0 _ rfl
  have A1 := AB.c 1 _ rfl
  have A2 := AB.c 2 _ rfl
  have A3 := AB.c 3 _ rfl
  have A4 := AB.c 4 _ rfl
  have A5 := AB.c 5 _ rfl
  have A6 := AB.c 6 _ rfl
  have Af0 := AB.f 0 (Nat.le_of_ble_eq_true rfl)
  have Af1 := AB.f 1 (Nat.le_of_ble_eq_true rfl)
  have Af2 := AB.f 2 (Nat.le_of_ble_eq_true rfl)
  have Af3 := AB.f 3 (Nat.le_of_ble_eq_true rfl)
  have Af4 := AB.f 4 (Nat.le_of_ble_eq_true rfl)
  have Af5 := AB.f 5 (Nat.le_of_ble_eq_true rfl)
  have Af6 := AB.f 6 (Nat.le_of_ble_eq_true rfl)
  have Al := AB.lt
  clear hb3
  go_wp2_with fail
  refine (Check_any secret now window [] ⟨NS, t, ky, rf, o, nw, SG⟩ none 0 _ (Sl.nil _ _) (by decide)).mono ?_
  rw [HQ.out, HX.out]
  rintro e w4 ⟨o4, k4, rfl, own4, hb4⟩
  clear own4
  simp only [List.length_nil]
  have B4 : Below w.heap.size w w4 := bcall (by go_grown) hb4 (by go_size)
  have s4 := B4.size
  have q4 : w3.heap.size + 2 ≤ w4.heap.size := by have h := hb4.size; first | omega | (simp at h; omega)
  obtain ⟨ba0, ba1, baf, bag, bal⟩ := (((Box2.mk ba0 ba1 baf bag bal).alloc (.cells #[.int .i64 NS, .int .i64 t, .int .i64 ky, .string rf, .int .i64 o, .int .i64 nw, .int .i64 SG] 23)).alloc (.cells #[(.int .i64 0), (.int .i64 0)] 26)).below hb4 (by go_size)
  have bbh := (Box2.new (w3.alloc (.cells #[.int .i64 NS, .int .i64 t, .int .i64 ky, .string rf, .int .i64 o, .int .i64 nw, .int .i64 SG] 23)) (.int .i64 0) (.int .i64 0) 26).below hb4 (by go_size)
  simp only [World.size_alloc] at bbh
  obtain ⟨bb0, bb1, bbf, bbg, bbl⟩ := bbh
  clear A0 A1 A2 A3 A4 A5 A6 Af0 Af1 Af2 Af3 Af4 Af5 Af6 Al
  replace AB := ((AB.alloc (.cells #[.int .i64 NS, .int .i64 t, .int .i64 ky, .string rf, .int .i64 o, .int .i64 nw, .int .i64 SG] 23)).alloc (.cells #[(.int .i64 0), (.int .i64 0)] 26)).below hb4 (by have h := AB.lt; go_size)
  have A0 := AB.c 0 _ rfl
  have A1 := AB.c 1 _ rfl
  have A2 := AB.c 2 _ rfl
  have A3 := AB.c 3 _ rfl
  have A4 := AB.c 4 _ rfl
  have A5 := AB.c 5 _ rfl
  have A6 := AB.c 6 _ rfl
  have Af0 := AB.f 0 (Nat.le_of_ble_eq_true rfl)
  have Af1 := AB.f 1 (Nat.le_of_ble_eq_true rfl)
  have Af2 := AB.f 2 (Nat.le_of_ble_eq_true rfl)
  have Af3 := AB.f 3 (Nat.le_of_ble_eq_true rfl)
  have Af4 := AB.f 4 (Nat.le_of_ble_eq_true rfl)
  have Af5 := AB.f 5 (Nat.le_of_ble_eq_true rfl)
  have Af6 := AB.f 6 (Nat.le_of_ble_eq_true rfl)
  have Al := AB.lt
  have VB := ((Blk.new w3 [.int .i64 NS, .int .i64 t, .int .i64 ky, .string rf, .int .i64 o, .int .i64 nw, .int .i64 SG] 23 (g := w3.heap.size) (by go_size)).alloc (.cells #[(.int .i64 0), (.int .i64 0)] 26)).below hb4 (by go_size)
  have V0 := VB.c 0 _ rfl
  have V1 := VB.c 1 _ rfl
  have V2 := VB.c 2 _ rfl
  have V3 := VB.c 3 _ rfl
  have V4 := VB.c 4 _ rfl
  have V5 := VB.c 5 _ rfl
  have V6 := VB.c 6 _ rfl
  have Vf0 := VB.f 0 (Nat.le_of_ble_eq_true rfl)
  have Vf1 := VB.f 1 (Nat.le_of_ble_eq_true rfl)
  have Vf2 := VB.f 2 (Nat.le_of_ble_eq_true rfl)
  have Vf3 := VB.f 3 (Nat.le_of_ble_eq_true rfl)
  have Vf4 := VB.f 4 (Nat.le_of_ble_eq_true rfl)
  have Vf5 := VB.f 5 (Nat.le_of_ble_eq_true rfl)
  have Vf6 := VB.f 6 (Nat.le_of_ble_eq_true rfl)
  have Vl := VB.lt
  clear hb4
  go_wp2_with fail
  refine wp_region_ord [0, 1, 2, 3] (by kernel_rfl) (by kernel_rfl) ?_
  repeat (refine wpI_rd rfl rfl ?_; go_big_quiet_step (fail); refine wpQuiet_nil ?_)
  refine wpI_call (f := 17) (args := #[.int .i64 16, .int .i64 0]) rfl rfl rfl (by simp [go_sem]) ?_
  refine (fault_any _ _ _).mono ?_
  rintro e w5 ⟨rfl, hb5⟩
  refine ⟨_, rfl, hb5, ?_⟩
  have B5 : Below w.heap.size w w5 := bcall (by go_grown) hb5 (by go_size)
  have s5 := B5.size
  have q5 : w4.heap.size + 1 ≤ w5.heap.size := by have h := hb5.size; first | omega | (simp at h; omega)
  obtain ⟨ba0, ba1, baf, bag, bal⟩ := ((Box2.mk ba0 ba1 baf bag bal).alloc (.cells #[(.int .i64 16), (.int .i64 0)] 26)).drew.below hb5 (by go_size)
  obtain ⟨bb0, bb1, bbf, bbg, bbl⟩ := ((Box2.mk bb0 bb1 bbf bbg bbl).alloc (.cells #[(.int .i64 16), (.int .i64 0)] 26)).drew.below hb5 (by go_size)
  obtain ⟨bc0, bc1, bcf, bcg, bcl⟩ := (Box2.new w4 (.int .i64 16) (.int .i64 0) 26).drew.below hb5 (by go_size)
  clear A0 A1 A2 A3 A4 A5 A6 Af0 Af1 Af2 Af3 Af4 Af5 Af6 Al
  replace AB := (AB.alloc (.cells #[(.int .i64 16), (.int .i64 0)] 26)).drew.below hb5 (by have h := AB.lt; go_size)
  have A0 := AB.c 0 _ rfl
  have A1 := AB.c 1 _ rfl
  have A2 := AB.c 2 _ rfl
  have A3 := AB.c 3 _ rfl
  have A4 := AB.c 4 _ rfl
  have A5 := AB.c 5 _ rfl
  have A6 := AB.c 6 _ rfl
  have Af0 := AB.f 0 (Nat.le_of_ble_eq_true rfl)
  have Af1 := AB.f 1 (Nat.le_of_ble_eq_true rfl)
  have Af2 := AB.f 2 (Nat.le_of_ble_eq_true rfl)
  have Af3 := AB.f 3 (Nat.le_of_ble_eq_true rfl)
  have Af4 := AB.f 4 (Nat.le_of_ble_eq_true rfl)
  have Af5 := AB.f 5 (Nat.le_of_ble_eq_true rfl)
  have Af6 := AB.f 6 (Nat.le_of_ble_eq_true rfl)
  have Al := AB.lt
  clear V0 V1 V2 V3 V4 V5 V6 Vf0 Vf1 Vf2 Vf3 Vf4 Vf5 Vf6 Vl
  replace VB := (VB.alloc (.cells #[(.int .i64 16), (.int .i64 0)] 26)).drew.below hb5 (by have h := VB.lt; go_size)
  have V0 := VB.c 0 _ rfl
  have V1 := VB.c 1 _ rfl
  have V2 := VB.c 2 _ rfl
  have V3 := VB.c 3 _ rfl
  have V4 := VB.c 4 _ rfl
  have V5 := VB.c 5 _ rfl
  have V6 := VB.c 6 _ rfl
  have Vf0 := VB.f 0 (Nat.le_of_ble_eq_true rfl)
  have Vf1 := VB.f 1 (Nat.le_of_ble_eq_true rfl)
  have Vf2 := VB.f 2 (Nat.le_of_ble_eq_true rfl)
  have Vf3 := VB.f 3 (Nat.le_of_ble_eq_true rfl)
  have Vf4 := VB.f 4 (Nat.le_of_ble_eq_true rfl)
  have Vf5 := VB.f 5 (Nat.le_of_ble_eq_true rfl)
  have Vf6 := VB.f 6 (Nat.le_of_ble_eq_true rfl)
  have Vl := VB.lt
  clear hb5
  try simp only [Act.put, List.setIfInBounds_toArray, List.set_cons_zero, List.set_cons_succ]
  repeat (refine wpI_rd rfl rfl ?_; go_big_quiet_step (fail); refine wpQuiet_nil ?_)
  refine wpI_nil ?_
  try simp only [Act.put, List.setIfInBounds_toArray, List.set_cons_zero, List.set_cons_succ]
  go_wp2_with fail
  go_ret
  exact ⟨ret_true (by simp), by go_grown⟩
set_option maxRecDepth 100000 in
set_option maxHeartbeats 2000000 in
theorem PushcertCertifiedIsAccepted_ok (secret now window n t ky : Int) (rf : ByteArray) (o nw s : Int) (w : World) (hk : Pl.isKeyB secret = true) (ht : Pl.isTimeB t = true) (h1 : Pl.inB now 0 100000 = true) (h2 : Pl.inB window 0 100000 = true) (hC : Pl.certF ⟨Pl.nonceS secret t, t, ky, rf, o, nw, s⟩ = (0, 0)) (c1 : decide (now < t) = false) (c2 : decide (t < now - window) = false) : Calls Try.prog 5 #[.int .i64 secret, .int .i64 now, .int .i64 window, .agg (certCells ⟨n, t, ky, rf, o, nw, s⟩).toArray] w fun e w' => e = .returned (.bool true) ∧ Below w.heap.size w w' := by
  have HF := Lib.hid (show Pl.nonceF secret t = (0, 0) by rw [Pl.nonceF, hk]; rw [ht]; rfl)
  have HV := Lib.hid (show Pl.nonceV secret t = Pl.nonceS secret t by rw [Pl.nonceV, HF.out]; rfl)
  obtain ⟨NS, hNS⟩ : ∃ x, Pl.nonceS secret t = x := ⟨_, rfl⟩
  rw [hNS] at HV
  rw [hNS] at hC
  have HG := Lib.hid hC
  have HW := Lib.hid (show Pl.certV ⟨NS, t, ky, rf, o, nw, s⟩ = ⟨NS, t, ky, rf, o, nw, Pl.certS ⟨NS, t, ky, rf, o, nw, s⟩⟩ by rw [Pl.certV, if_pos (by rw [hC])]; rfl)
  have HP := Pl.pushF_signed hC hk (show Pl.isTimeB now = true from h1) (show Pl.isTimeB window = true from h2) (show NS = Pl.nonceS secret t from hNS.symm)
  simp only [Pl.Cert.signed] at HP
  obtain ⟨SG, hSG⟩ : ∃ x, Pl.certS ⟨NS, t, ky, rf, o, nw, s⟩ = x := ⟨_, rfl⟩
  rw [hSG] at HW HP
  have HQ := Lib.hid (show Pl.pushF secret now window [] ⟨NS, t, ky, rf, o, nw, SG⟩ = (0, 0) by rw [HP, if_neg (by simp [c1, c2])])
  have HX := Lib.hid (show Pl.pushV secret now window [] ⟨NS, t, ky, rf, o, nw, SG⟩ = [NS] by rw [Pl.pushV, HQ.out]; rfl)
  clear HP
  have b1 := Pl.inB_true.1 h1
  have b2 := Pl.inB_true.1 h2
  have ew : IntKind.i64.wrap (now - window) = now - window := IntWalk.i64_in _ (by omega)
  clear b1 b2 hNS hSG hC
  
  unfold certCells
  simp only
  go_enter Try.func5, Try.ntmps5
  go_wp2_with fail
  refine (pushes_any _).mono ?_
  rintro e w1 ⟨rfl, hb1⟩
  have B1 : Below w.heap.size w w1 := bcall (by go_grown) hb1 (by go_size)
  have s1 := B1.size
  have q1 : w.heap.size + 1 ≤ w1.heap.size := by have h := hb1.size; first | omega | (simp at h; omega)
  have AB := (Blk.new w [.int .i64 n, .int .i64 t, .int .i64 ky, .string rf, .int .i64 o, .int .i64 nw, .int .i64 s] 23 (g := w.heap.size) (by go_size)).below hb1 (by go_size)
  have A0 := AB.c 0 _ rfl
  have A1 := AB.c 1 _ rfl
  have A2 := AB.c 2 _ rfl
  have A3 := AB.c 3 _ rfl
  have A4 := AB.c 4 _ rfl
  have A5 := AB.c 5 _ rfl
  have A6 := AB.c 6 _ rfl
  have Af0 := AB.f 0 (Nat.le_of_ble_eq_true rfl)
  have Af1 := AB.f 1 (Nat.le_of_ble_eq_true rfl)
  have Af2 := AB.f 2 (Nat.le_of_ble_eq_true rfl)
  have Af3 := AB.f 3 (Nat.le_of_ble_eq_true rfl)
  have Af4 := AB.f 4 (Nat.le_of_ble_eq_true rfl)
  have Af5 := AB.f 5 (Nat.le_of_ble_eq_true rfl)
  have Af6 := AB.f 6 (Nat.le_of_ble_eq_true rfl)
  have Al := AB.lt
  clear hb1
  go_wp2_with fail
  refine (Nonce_any secret t _).mono ?_
  rw [HF.out, HV.out]
  rintro e w2 ⟨rfl, hb2⟩
  have B2 : Below w.heap.size w w2 := bcall (by go_grown) hb2 (by go_size)
  have s2 := B2.size
  have q2 : w1.heap.size ≤ w2.heap.size := by have h := hb2.size; first | omega | (simp at h; omega)
  clear A0 A1 A2 A3 A4 A5 A6 Af0 Af1 Af2 Af3 Af4 Af5 Af6 Al
  replace AB := AB.below hb2 (by have h := AB.lt; go_size)
  have A0 := AB.c 0 _ rfl
  have A1 := AB.c 1 _ rfl
  have A2 := AB.c 2 _ rfl
  have A3 := AB.c 3 _ rfl
  have A4 := AB.c 4 _ rfl
  have A5 := AB.c 5 _ rfl
  have A6 := AB.c 6 _ rfl
  have Af0 := AB.f 0 (Nat.le_of_ble_eq_true rfl)
  have Af1 := AB.f 1 (Nat.le_of_ble_eq_true rfl)
  have Af2 := AB.f 2 (Nat.le_of_ble_eq_true rfl)
  have Af3 := AB.f 3 (Nat.le_of_ble_eq_true rfl)
  have Af4 := AB.f 4 (Nat.le_of_ble_eq_true rfl)
  have Af5 := AB.f 5 (Nat.le_of_ble_eq_true rfl)
  have Af6 := AB.f 6 (Nat.le_of_ble_eq_true rfl)
  have Al := AB.lt
  clear hb2
  go_wp2_with (first | (go_at_call 18; refine (lin_any _ _ _ _).mono ?_; rintro e w' ⟨rfl, rfl⟩))
  refine (Certify_any ⟨NS, t, ky, rf, o, nw, s⟩ _).mono ?_
  rw [HG.out, HW.out]
  rintro e w3 ⟨rfl, hb3⟩
  unfold certCells
  simp only
  have B3 : Below w.heap.size w w3 := bcall (by go_grown) hb3 (by go_size)
  have s3 := B3.size
  have q3 : w2.heap.size + 1 ≤ w3.heap.size := by have h := hb3.size; first | omega | (simp at h; omega)
  obtain ⟨ba0, ba1, baf, bag, bal⟩ := (Box2.new (w2.setCell ⟨w.heap.size, 0, none⟩ (.int .i64 NS)) (.int .i64 0) (.int .i64 0) 26).below hb3 (by go_size)
  clear A0 A1 A2 A3 A4 A5 A6 Af0 Af1 Af2 Af3 Af4 Af5 Af6 Al
  replace AB : Blk w3 (w.heap.size) [.int .i64 NS, .int .i64 t, .int .i64 ky, .string rf, .int .i64 o, .int .i64 nw, .int .i64 s] := ((AB.set (k := 0) (Nat.le_of_ble_eq_true rfl) (.int .i64 NS)).alloc (.cells #[(.int .i64 0), (.int .i64 0)] 26)).below hb3 (by have h := AB.lt; go_size)
  have A0 := AB.c 0 _ rfl
  have A1 := AB.c 1 _ rfl
  have A2 := AB.c 2 _ rfl
  have A3 := AB.c 3 _ rfl
  have A4 := AB.c 4 _ rfl
  have A5 := AB.c 5 _ rfl
  have A6 := AB.c 6 _ rfl
  have Af0 := AB.f 0 (Nat.le_of_ble_eq_true rfl)
  have Af1 := AB.f 1 (Nat.le_of_ble_eq_true rfl)
  have Af2 := AB.f 2 (Nat.le_of_ble_eq_true rfl)
  have Af3 := AB.f 3 (Nat.le_of_ble_eq_true rfl)
  have Af4 := AB.f 4 (Nat.le_of_ble_eq_true rfl)
  have Af5 := AB.f 5 (Nat.le_of_ble_eq_true rfl)
  have Af6 := AB.f 6 (Nat.le_of_ble_eq_true rfl)
  have Al := AB.lt
  clear hb3
  go_wp2_with fail
  refine (Check_any secret now window [] ⟨NS, t, ky, rf, o, nw, SG⟩ none 0 _ (Sl.nil _ _) (by decide)).mono ?_
  rw [HQ.out, HX.out]
  rintro e w4 ⟨o4, k4, rfl, own4, hb4⟩
  have sl4 := Sl.own own4
  clear own4
  simp only [List.length_singleton] at sl4 ⊢
  have B4 : Below w.heap.size w w4 := bcall (by go_grown) hb4 (by go_size)
  have s4 := B4.size
  have q4 : w3.heap.size + 2 ≤ w4.heap.size := by have h := hb4.size; first | omega | (simp at h; omega)
  obtain ⟨ba0, ba1, baf, bag, bal⟩ := (((Box2.mk ba0 ba1 baf bag bal).alloc (.cells #[.int .i64 NS, .int .i64 t, .int .i64 ky, .string rf, .int .i64 o, .int .i64 nw, .int .i64 SG] 23)).alloc (.cells #[(.int .i64 0), (.int .i64 0)] 26)).below hb4 (by go_size)
  have bbh := (Box2.new (w3.alloc (.cells #[.int .i64 NS, .int .i64 t, .int .i64 ky, .string rf, .int .i64 o, .int .i64 nw, .int .i64 SG] 23)) (.int .i64 0) (.int .i64 0) 26).below hb4 (by go_size)
  simp only [World.size_alloc] at bbh
  obtain ⟨bb0, bb1, bbf, bbg, bbl⟩ := bbh
  clear A0 A1 A2 A3 A4 A5 A6 Af0 Af1 Af2 Af3 Af4 Af5 Af6 Al
  replace AB := ((AB.alloc (.cells #[.int .i64 NS, .int .i64 t, .int .i64 ky, .string rf, .int .i64 o, .int .i64 nw, .int .i64 SG] 23)).alloc (.cells #[(.int .i64 0), (.int .i64 0)] 26)).below hb4 (by have h := AB.lt; go_size)
  have A0 := AB.c 0 _ rfl
  have A1 := AB.c 1 _ rfl
  have A2 := AB.c 2 _ rfl
  have A3 := AB.c 3 _ rfl
  have A4 := AB.c 4 _ rfl
  have A5 := AB.c 5 _ rfl
  have A6 := AB.c 6 _ rfl
  have Af0 := AB.f 0 (Nat.le_of_ble_eq_true rfl)
  have Af1 := AB.f 1 (Nat.le_of_ble_eq_true rfl)
  have Af2 := AB.f 2 (Nat.le_of_ble_eq_true rfl)
  have Af3 := AB.f 3 (Nat.le_of_ble_eq_true rfl)
  have Af4 := AB.f 4 (Nat.le_of_ble_eq_true rfl)
  have Af5 := AB.f 5 (Nat.le_of_ble_eq_true rfl)
  have Af6 := AB.f 6 (Nat.le_of_ble_eq_true rfl)
  have Al := AB.lt
  have VB := ((Blk.new w3 [.int .i64 NS, .int .i64 t, .int .i64 ky, .string rf, .int .i64 o, .int .i64 nw, .int .i64 SG] 23 (g := w3.heap.size) (by go_size)).alloc (.cells #[(.int .i64 0), (.int .i64 0)] 26)).below hb4 (by go_size)
  have V0 := VB.c 0 _ rfl
  have V1 := VB.c 1 _ rfl
  have V2 := VB.c 2 _ rfl
  have V3 := VB.c 3 _ rfl
  have V4 := VB.c 4 _ rfl
  have V5 := VB.c 5 _ rfl
  have V6 := VB.c 6 _ rfl
  have Vf0 := VB.f 0 (Nat.le_of_ble_eq_true rfl)
  have Vf1 := VB.f 1 (Nat.le_of_ble_eq_true rfl)
  have Vf2 := VB.f 2 (Nat.le_of_ble_eq_true rfl)
  have Vf3 := VB.f 3 (Nat.le_of_ble_eq_true rfl)
  have Vf4 := VB.f 4 (Nat.le_of_ble_eq_true rfl)
  have Vf5 := VB.f 5 (Nat.le_of_ble_eq_true rfl)
  have Vf6 := VB.f 6 (Nat.le_of_ble_eq_true rfl)
  have Vl := VB.lt
  clear hb4
  go_wp2_with fail
  refine (Ints_any [NS] [NS] o4 _ k4 1 _ (sl4.below (by go_grown) (Nat.le_refl _)) (Sl.fresh (C := intVals [NS]) (by simp) rfl (Nat.le_refl _) (by simp [maxLen])) (by simp) (by simp)).mono ?_
  rw [decide_eq_true (Eq.refl [NS])]
  rintro e w5 ⟨rfl, hb5⟩
  have B5 : Below w.heap.size w w5 := bcall (by go_grown) hb5 (by go_size)
  have s5 := B5.size
  have q5 : w4.heap.size + 2 ≤ w5.heap.size := by have h := hb5.size; first | omega | (simp at h; omega)
  obtain ⟨ba0, ba1, baf, bag, bal⟩ := (((Box2.mk ba0 ba1 baf bag bal).alloc (.cells #[(.int .i64 0), (.int .i64 0)] 26)).alloc (.cells #[.int .i64 NS] 3)).below hb5 (by go_size)
  obtain ⟨bb0, bb1, bbf, bbg, bbl⟩ := (((Box2.mk bb0 bb1 bbf bbg bbl).alloc (.cells #[(.int .i64 0), (.int .i64 0)] 26)).alloc (.cells #[.int .i64 NS] 3)).below hb5 (by go_size)
  obtain ⟨bc0, bc1, bcf, bcg, bcl⟩ := ((Box2.new w4 (.int .i64 0) (.int .i64 0) 26).alloc (.cells #[.int .i64 NS] 3)).below hb5 (by go_size)
  clear A0 A1 A2 A3 A4 A5 A6 Af0 Af1 Af2 Af3 Af4 Af5 Af6 Al
  replace AB := ((AB.alloc (.cells #[(.int .i64 0), (.int .i64 0)] 26)).alloc (.cells #[.int .i64 NS] 3)).below hb5 (by have h := AB.lt; go_size)
  have A0 := AB.c 0 _ rfl
  have A1 := AB.c 1 _ rfl
  have A2 := AB.c 2 _ rfl
  have A3 := AB.c 3 _ rfl
  have A4 := AB.c 4 _ rfl
  have A5 := AB.c 5 _ rfl
  have A6 := AB.c 6 _ rfl
  have Af0 := AB.f 0 (Nat.le_of_ble_eq_true rfl)
  have Af1 := AB.f 1 (Nat.le_of_ble_eq_true rfl)
  have Af2 := AB.f 2 (Nat.le_of_ble_eq_true rfl)
  have Af3 := AB.f 3 (Nat.le_of_ble_eq_true rfl)
  have Af4 := AB.f 4 (Nat.le_of_ble_eq_true rfl)
  have Af5 := AB.f 5 (Nat.le_of_ble_eq_true rfl)
  have Af6 := AB.f 6 (Nat.le_of_ble_eq_true rfl)
  have Al := AB.lt
  clear V0 V1 V2 V3 V4 V5 V6 Vf0 Vf1 Vf2 Vf3 Vf4 Vf5 Vf6 Vl
  replace VB := ((VB.alloc (.cells #[(.int .i64 0), (.int .i64 0)] 26)).alloc (.cells #[.int .i64 NS] 3)).below hb5 (by have h := VB.lt; go_size)
  have V0 := VB.c 0 _ rfl
  have V1 := VB.c 1 _ rfl
  have V2 := VB.c 2 _ rfl
  have V3 := VB.c 3 _ rfl
  have V4 := VB.c 4 _ rfl
  have V5 := VB.c 5 _ rfl
  have V6 := VB.c 6 _ rfl
  have Vf0 := VB.f 0 (Nat.le_of_ble_eq_true rfl)
  have Vf1 := VB.f 1 (Nat.le_of_ble_eq_true rfl)
  have Vf2 := VB.f 2 (Nat.le_of_ble_eq_true rfl)
  have Vf3 := VB.f 3 (Nat.le_of_ble_eq_true rfl)
  have Vf4 := VB.f 4 (Nat.le_of_ble_eq_true rfl)
  have Vf5 := VB.f 5 (Nat.le_of_ble_eq_true rfl)
  have Vf6 := VB.f 6 (Nat.le_of_ble_eq_true rfl)
  have Vl := VB.lt
  replace sl4 := (sl4.below (by go_grown) (Nat.le_refl _)).below hb5 (Nat.le_refl _)
  clear hb5
  go_wp2_with fail
  go_ret
  exact ⟨ret_true (by simp), by go_grown⟩
theorem PushcertCertifiedIsAccepted_main (secret now window : Int) (c : Pl.Cert) (w : World) : Calls Try.prog 5 #[.int .i64 secret, .int .i64 now, .int .i64 window, .agg (certCells c).toArray] w fun e w' => e = .returned (.bool true) ∧ Below w.heap.size w w' := by
  obtain ⟨n, t, ky, rf, o, nw, s⟩ := c
  by_cases hF : (Pl.nonceF secret t).1 = 0
  · cases hk : Pl.isKeyB secret with
    | false => rw [Pl.nonceF, hk] at hF; cases hF
    | true =>
      cases ht : Pl.isTimeB t with
      | false => rw [Pl.nonceF, hk, ht] at hF; cases hF
      | true =>
        cases h1 : Pl.inB now 0 100000 with
        | false => exact PushcertCertifiedIsAccepted_now secret now window n t ky rf o nw s w hk ht h1
        | true =>
          cases h2 : Pl.inB window 0 100000 with
          | false => exact PushcertCertifiedIsAccepted_win secret now window n t ky rf o nw s w hk ht h1 h2
          | true =>
            rcases Pl.certF_cases ⟨Pl.nonceS secret t, t, ky, rf, o, nw, s⟩ with ⟨hC, _, _, _⟩ | hC
            · cases c1 : decide (now < t) with
              | true => exact PushcertCertifiedIsAccepted_new secret now window n t ky rf o nw s w hk ht h1 h2 hC c1
              | false =>
                cases c2 : decide (t < now - window) with
                | true => exact PushcertCertifiedIsAccepted_old secret now window n t ky rf o nw s w hk ht h1 h2 hC c1 c2
                | false => exact PushcertCertifiedIsAccepted_ok secret now window n t ky rf o nw s w hk ht h1 h2 hC c1 c2
            · exact PushcertCertifiedIsAccepted_cert secret now window n t ky rf o nw s w hk ht h1 h2 hC
  · exact PushcertCertifiedIsAccepted_bad secret now window n t ky rf o nw s w hF
end Go.Proofs.Ytkhkijpkgogncaa
