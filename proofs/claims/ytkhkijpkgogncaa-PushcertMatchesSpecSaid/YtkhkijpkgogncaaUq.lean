/- The law PushcertMatchesSpec returns true. -/
import Derived.Test.YtkhkijpkgogncaaUm
namespace Go.Proofs.Ytkhkijpkgogncaa
open Go.RowKit

set_option maxRecDepth 100000 in
set_option maxHeartbeats 2000000 in
theorem PushcertMatchesSpec_kbad (secret time n t ky : Int) (rf : ByteArray) (o nw s : Int) (w : World) (hk : Pl.isKeyB secret = false) (hF : (Pl.certF ⟨n, t, ky, rf, o, nw, s⟩).1 ≠ 0) : Calls Try.prog 3 #[.int .i64 secret, .int .i64 time, .agg (certCells ⟨n, t, ky, rf, o, nw, s⟩).toArray] w fun e w' => e = .returned (.bool true) ∧ Below w.heap.size w w' := by
  unfold certCells
  simp only
  have HN := Lib.hid (show Pl.nonceF secret time = (3, -1) by rw [Pl.nonceF, hk]; rfl)
  have HV := Lib.hid (show Pl.nonceV secret time = 0 by rw [Pl.nonceV, HN.out]; rfl)
  obtain ⟨G, hG⟩ : ∃ G, Pl.certF ⟨n, t, ky, rf, o, nw, s⟩ = G := ⟨_, rfl⟩
  have HCV := Lib.hid (show Pl.certV ⟨n, t, ky, rf, o, nw, s⟩ = Pl.Cert.zero by rw [Pl.certV, if_neg hF])
  rw [hG] at hF
  have HF := Lib.hid hG
  have u1 : (G.1 == 0) = false := by simp [hF]
  have u2 : (G.1 != 0) = true := by simp [hF]
  clear hG hF
  go_enter Try.func3, Try.ntmps3
  go_wp2_with fail
  refine (pushes_any _).mono ?_
  rintro e w1 ⟨rfl, hb1⟩
  have B1 : Below w.heap.size w w1 := bcall (by go_grown) hb1 (by go_size)
  have s1 := B1.size
  have q1 : w.heap.size + 1 ≤ w1.heap.size := by have h := hb1.size; first | omega | (simp at h; omega)
  have AB := (Blk.new w [.int .i64 n, .int .i64 t, .int .i64 ky, .string rf, .int .i64 o, .int .i64 nw, .int .i64 s] 23 (g := w.heap.size) (by go_size)).below hb1 (by go_size)
  have A0 := AB.c 0 _ rfl
  have A1 := AB.c 1 _ rfl
  have A2 := AB.c 2 _ rfl
  have A3 := AB.c 3 _ rfl
  have A4 := AB.c 4 _ rfl
  have A5 := AB.c 5 _ rfl
  have A6 := AB.c 6 _ rfl
  have Af0 := AB.f 0 (Nat.le_of_ble_eq_true rfl)
  have Af1 := AB.f 1 (Nat.le_of_ble_eq_true rfl)
  have Af2 := AB.f 2 (Nat.le_of_ble_eq_true rfl)
  have Af3 := AB.f 3 (Nat.le_of_ble_eq_true rfl)
  have Af4 := AB.f 4 (Nat.le_of_ble_eq_true rfl)
  have Af5 := AB.f 5 (Nat.le_of_ble_eq_true rfl)
  have Af6 := AB.f 6 (Nat.le_of_ble_eq_true rfl)
  have Al := AB.lt
  clear hb1
  go_wp2_with (first | (go_at_call 18; refine (lin_any _ _ _ _).mono ?_; rintro e w' ⟨rfl, rfl⟩) | (go_at_call 16; refine (rIsKey_any _ _).mono ?_; rintro e w' ⟨rfl, rfl⟩))
  refine (fault_any _ _ _).mono ?_
  rintro e w2 ⟨rfl, hb2⟩
  have B2 : Below w.heap.size w w2 := bcall (by go_grown) hb2 (by go_size)
  have s2 := B2.size
  have q2 : w1.heap.size + 1 ≤ w2.heap.size := by have h := hb2.size; first | omega | (simp at h; omega)
  obtain ⟨ba0, ba1, baf, bag, bal⟩ := (Box2.new w1 (.int .i64 0) (.int .i64 0) 26).below hb2 (by go_size)
  clear A0 A1 A2 A3 A4 A5 A6 Af0 Af1 Af2 Af3 Af4 Af5 Af6 Al
  replace AB := (AB.alloc (.cells #[(.int .i64 0), (.int .i64 0)] 26)).below hb2 (by have h := AB.lt; go_size)
  have A0 := AB.c 0 _ rfl
  have A1 := AB.c 1 _ rfl
  have A2 := AB.c 2 _ rfl
  have A3 := AB.c 3 _ rfl
  have A4 := AB.c 4 _ rfl
  have A5 := AB.c 5 _ rfl
  have A6 := AB.c 6 _ rfl
  have Af0 := AB.f 0 (Nat.le_of_ble_eq_true rfl)
  have Af1 := AB.f 1 (Nat.le_of_ble_eq_true rfl)
  have Af2 := AB.f 2 (Nat.le_of_ble_eq_true rfl)
  have Af3 := AB.f 3 (Nat.le_of_ble_eq_true rfl)
  have Af4 := AB.f 4 (Nat.le_of_ble_eq_true rfl)
  have Af5 := AB.f 5 (Nat.le_of_ble_eq_true rfl)
  have Af6 := AB.f 6 (Nat.le_of_ble_eq_true rfl)
  have Al := AB.lt
  clear hb2
  go_wp2_with fail
  refine (Nonce_any secret time _).mono ?_
  rw [HN.out, HV.out]
  rintro e w3 ⟨rfl, hb3⟩
  have B3 : Below w.heap.size w w3 := bcall (by go_grown) hb3 (by go_size)
  have s3 := B3.size
  have q3 : w2.heap.size ≤ w3.heap.size := by have h := hb3.size; first | omega | (simp at h; omega)
  obtain ⟨ba0, ba1, baf, bag, bal⟩ := ((Box2.mk ba0 ba1 baf bag bal).set (.int .i64 3) (.int .i64 (-1))).below hb3 (by go_size)
  clear A0 A1 A2 A3 A4 A5 A6 Af0 Af1 Af2 Af3 Af4 Af5 Af6 Al
  replace AB := ((AB.far (a := ⟨w1.heap.size, 0, none⟩) (by show w1.heap.size ≠ _; omega) (.int .i64 3)).far (a := ⟨w1.heap.size, 1, none⟩) (by show w1.heap.size ≠ _; omega) (.int .i64 (-1))).below hb3 (by have h := AB.lt; go_size)
  have A0 := AB.c 0 _ rfl
  have A1 := AB.c 1 _ rfl
  have A2 := AB.c 2 _ rfl
  have A3 := AB.c 3 _ rfl
  have A4 := AB.c 4 _ rfl
  have A5 := AB.c 5 _ rfl
  have A6 := AB.c 6 _ rfl
  have Af0 := AB.f 0 (Nat.le_of_ble_eq_true rfl)
  have Af1 := AB.f 1 (Nat.le_of_ble_eq_true rfl)
  have Af2 := AB.f 2 (Nat.le_of_ble_eq_true rfl)
  have Af3 := AB.f 3 (Nat.le_of_ble_eq_true rfl)
  have Af4 := AB.f 4 (Nat.le_of_ble_eq_true rfl)
  have Af5 := AB.f 5 (Nat.le_of_ble_eq_true rfl)
  have Af6 := AB.f 6 (Nat.le_of_ble_eq_true rfl)
  have Al := AB.lt
  clear hb3
  go_wp2_with fail
  refine (CertFault_any ⟨n, t, ky, rf, o, nw, s⟩ _).mono ?_
  rw [HF.out]
  rintro e w4 ⟨rfl, hb4⟩
  have B4 : Below w.heap.size w w4 := bcall (by go_grown) hb4 (by go_size)
  have s4 := B4.size
  have q4 : w3.heap.size + 1 ≤ w4.heap.size := by have h := hb4.size; first | omega | (simp at h; omega)
  obtain ⟨ba0, ba1, baf, bag, bal⟩ := ((Box2.mk ba0 ba1 baf bag bal).alloc (.cells #[(.int .i64 3), (.int .i64 (-1))] 26)).below hb4 (by go_size)
  obtain ⟨bb0, bb1, bbf, bbg, bbl⟩ := (Box2.new w3 (.int .i64 3) (.int .i64 (-1)) 26).below hb4 (by go_size)
  clear A0 A1 A2 A3 A4 A5 A6 Af0 Af1 Af2 Af3 Af4 Af5 Af6 Al
  replace AB := (AB.alloc (.cells #[(.int .i64 3), (.int .i64 (-1))] 26)).below hb4 (by have h := AB.lt; go_size)
  have A0 := AB.c 0 _ rfl
  have A1 := AB.c 1 _ rfl
  have A2 := AB.c 2 _ rfl
  have A3 := AB.c 3 _ rfl
  have A4 := AB.c 4 _ rfl
  have A5 := AB.c 5 _ rfl
  have A6 := AB.c 6 _ rfl
  have Af0 := AB.f 0 (Nat.le_of_ble_eq_true rfl)
  have Af1 := AB.f 1 (Nat.le_of_ble_eq_true rfl)
  have Af2 := AB.f 2 (Nat.le_of_ble_eq_true rfl)
  have Af3 := AB.f 3 (Nat.le_of_ble_eq_true rfl)
  have Af4 := AB.f 4 (Nat.le_of_ble_eq_true rfl)
  have Af5 := AB.f 5 (Nat.le_of_ble_eq_true rfl)
  have Af6 := AB.f 6 (Nat.le_of_ble_eq_true rfl)
  have Al := AB.lt
  clear hb4
  go_wp2_with fail
  refine (Certify_any ⟨n, t, ky, rf, o, nw, s⟩ _).mono ?_
  rw [HF.out, HCV.out]
  rintro e w5 ⟨rfl, hb5⟩
  unfold certCells Pl.Cert.zero
  simp only
  have B5 : Below w.heap.size w w5 := bcall (by go_grown) hb5 (by go_size)
  have s5 := B5.size
  have q5 : w4.heap.size ≤ w5.heap.size := by have h := hb5.size; first | omega | (simp at h; omega)
  obtain ⟨ba0, ba1, baf, bag, bal⟩ := ((Box2.mk ba0 ba1 baf bag bal).set (.int .i64 G.1) (.int .i64 G.2)).below hb5 (by go_size)
  obtain ⟨bb0, bb1, bbf, bbg, bbl⟩ := ((Box2.mk bb0 bb1 bbf bbg bbl).other (r := w1.heap.size) (by omega) (.int .i64 G.1) (.int .i64 G.2)).below hb5 (by go_size)
  clear A0 A1 A2 A3 A4 A5 A6 Af0 Af1 Af2 Af3 Af4 Af5 Af6 Al
  replace AB := ((AB.far (a := ⟨w1.heap.size, 0, none⟩) (by show w1.heap.size ≠ _; omega) (.int .i64 G.1)).far (a := ⟨w1.heap.size, 1, none⟩) (by show w1.heap.size ≠ _; omega) (.int .i64 G.2)).below hb5 (by have h := AB.lt; go_size)
  have A0 := AB.c 0 _ rfl
  have A1 := AB.c 1 _ rfl
  have A2 := AB.c 2 _ rfl
  have A3 := AB.c 3 _ rfl
  have A4 := AB.c 4 _ rfl
  have A5 := AB.c 5 _ rfl
  have A6 := AB.c 6 _ rfl
  have Af0 := AB.f 0 (Nat.le_of_ble_eq_true rfl)
  have Af1 := AB.f 1 (Nat.le_of_ble_eq_true rfl)
  have Af2 := AB.f 2 (Nat.le_of_ble_eq_true rfl)
  have Af3 := AB.f 3 (Nat.le_of_ble_eq_true rfl)
  have Af4 := AB.f 4 (Nat.le_of_ble_eq_true rfl)
  have Af5 := AB.f 5 (Nat.le_of_ble_eq_true rfl)
  have Af6 := AB.f 6 (Nat.le_of_ble_eq_true rfl)
  have Al := AB.lt
  clear hb5
  go_wp2_with fail
  refine wp_region_ord [0, 2, 1, 3, 4, 5, 6, 7, 8, 9, 10, 11, 12, 13] (by kernel_rfl) (by kernel_rfl) ?_
  repeat (refine wpI_rd rfl rfl ?_; go_big_quiet_step (fail); refine wpQuiet_nil ?_)
  refine wpI_call (f := 23) (args := #[.agg #[.int .i64 n, .int .i64 t, .int .i64 ky, .string rf, .int .i64 o, .int .i64 nw, .int .i64 s]]) rfl rfl rfl (by simp [go_sem]) ?_
  refine (certValidate_any ⟨n, t, ky, rf, o, nw, s⟩ _).mono ?_
  rw [HF.out]
  rintro e w6 ⟨rfl, hb6⟩
  refine ⟨_, rfl, hb6, ?_⟩
  have B6 : Below w.heap.size w w6 := bcall (by go_grown) hb6 (by go_size)
  have s6 := B6.size
  have q6 : w5.heap.size + 1 ≤ w6.heap.size := by have h := hb6.size; first | omega | (simp at h; omega)
  obtain ⟨ba0, ba1, baf, bag, bal⟩ := (((Box2.mk ba0 ba1 baf bag bal).other (r := w3.heap.size) (by omega) (.int .i64 G.1) (.int .i64 G.2)).alloc (.cells #[.int .i64 0, .int .i64 0, .int .i64 0, .string ⟨#[]⟩, .int .i64 0, .int .i64 0, .int .i64 0] 23)).drew.below hb6 (by go_size)
  obtain ⟨bb0, bb1, bbf, bbg, bbl⟩ := (((Box2.mk bb0 bb1 bbf bbg bbl).set (.int .i64 G.1) (.int .i64 G.2)).alloc (.cells #[.int .i64 0, .int .i64 0, .int .i64 0, .string ⟨#[]⟩, .int .i64 0, .int .i64 0, .int .i64 0] 23)).drew.below hb6 (by go_size)
  clear A0 A1 A2 A3 A4 A5 A6 Af0 Af1 Af2 Af3 Af4 Af5 Af6 Al
  replace AB := (((AB.far (a := ⟨w3.heap.size, 0, none⟩) (by show w3.heap.size ≠ _; omega) (.int .i64 G.1)).far (a := ⟨w3.heap.size, 1, none⟩) (by show w3.heap.size ≠ _; omega) (.int .i64 G.2)).alloc (.cells #[.int .i64 0, .int .i64 0, .int .i64 0, .string ⟨#[]⟩, .int .i64 0, .int .i64 0, .int .i64 0] 23)).drew.below hb6 (by have h := AB.lt; go_size)
  have A0 := AB.c 0 _ rfl
  have A1 := AB.c 1 _ rfl
  have A2 := AB.c 2 _ rfl
  have A3 := AB.c 3 _ rfl
  have A4 := AB.c 4 _ rfl
  have A5 := AB.c 5 _ rfl
  have A6 := AB.c 6 _ rfl
  have Af0 := AB.f 0 (Nat.le_of_ble_eq_true rfl)
  have Af1 := AB.f 1 (Nat.le_of_ble_eq_true rfl)
  have Af2 := AB.f 2 (Nat.le_of_ble_eq_true rfl)
  have Af3 := AB.f 3 (Nat.le_of_ble_eq_true rfl)
  have Af4 := AB.f 4 (Nat.le_of_ble_eq_true rfl)
  have Af5 := AB.f 5 (Nat.le_of_ble_eq_true rfl)
  have Af6 := AB.f 6 (Nat.le_of_ble_eq_true rfl)
  have Al := AB.lt
  have VB := (Blk.new ((w5.setCell ⟨w3.heap.size, 0, none⟩ (.int .i64 G.1)).setCell ⟨w3.heap.size, 1, none⟩ (.int .i64 G.2)) [.int .i64 0, .int .i64 0, .int .i64 0, .string ⟨#[]⟩, .int .i64 0, .int .i64 0, .int .i64 0] 23 (g := w5.heap.size) (by go_size)).drew.below hb6 (by go_size)
  have V0 := VB.c 0 _ rfl
  have V1 := VB.c 1 _ rfl
  have V2 := VB.c 2 _ rfl
  have V3 := VB.c 3 _ rfl
  have V4 := VB.c 4 _ rfl
  have V5 := VB.c 5 _ rfl
  have V6 := VB.c 6 _ rfl
  have Vf0 := VB.f 0 (Nat.le_of_ble_eq_true rfl)
  have Vf1 := VB.f 1 (Nat.le_of_ble_eq_true rfl)
  have Vf2 := VB.f 2 (Nat.le_of_ble_eq_true rfl)
  have Vf3 := VB.f 3 (Nat.le_of_ble_eq_true rfl)
  have Vf4 := VB.f 4 (Nat.le_of_ble_eq_true rfl)
  have Vf5 := VB.f 5 (Nat.le_of_ble_eq_true rfl)
  have Vf6 := VB.f 6 (Nat.le_of_ble_eq_true rfl)
  have Vl := VB.lt
  clear hb6
  try simp only [Act.put, List.setIfInBounds_toArray, List.set_cons_zero, List.set_cons_succ]
  repeat (refine wpI_rd rfl rfl ?_; go_big_quiet_step (fail); refine wpQuiet_nil ?_)
  refine wpI_nil ?_
  try simp only [Act.put, List.setIfInBounds_toArray, List.set_cons_zero, List.set_cons_succ]
  go_wp2_with fail
  refine wp_region_ord [0, 2, 1, 3, 4, 5, 6, 7, 8, 9, 10, 11, 12, 13, 14] (by kernel_rfl) (by kernel_rfl) ?_
  repeat (refine wpI_rd rfl rfl ?_; go_big_quiet_step (fail); refine wpQuiet_nil ?_)
  refine wpI_call (f := 23) (args := #[.agg #[.int .i64 n, .int .i64 t, .int .i64 ky, .string rf, .int .i64 o, .int .i64 nw, .int .i64 s]]) rfl rfl rfl (by simp [go_sem]) ?_
  refine (certValidate_any ⟨n, t, ky, rf, o, nw, s⟩ _).mono ?_
  rw [HF.out]
  rintro e w7 ⟨rfl, hb7⟩
  refine ⟨_, rfl, hb7, ?_⟩
  have B7 : Below w.heap.size w w7 := bcall (by go_grown) hb7 (by go_size)
  have s7 := B7.size
  have q7 : w6.heap.size ≤ w7.heap.size := by have h := hb7.size; first | omega | (simp at h; omega)
  obtain ⟨ba0, ba1, baf, bag, bal⟩ := (Box2.mk ba0 ba1 baf bag bal).drew.below hb7 (by go_size)
  obtain ⟨bb0, bb1, bbf, bbg, bbl⟩ := (Box2.mk bb0 bb1 bbf bbg bbl).drew.below hb7 (by go_size)
  clear A0 A1 A2 A3 A4 A5 A6 Af0 Af1 Af2 Af3 Af4 Af5 Af6 Al
  replace AB := AB.drew.below hb7 (by have h := AB.lt; go_size)
  have A0 := AB.c 0 _ rfl
  have A1 := AB.c 1 _ rfl
  have A2 := AB.c 2 _ rfl
  have A3 := AB.c 3 _ rfl
  have A4 := AB.c 4 _ rfl
  have A5 := AB.c 5 _ rfl
  have A6 := AB.c 6 _ rfl
  have Af0 := AB.f 0 (Nat.le_of_ble_eq_true rfl)
  have Af1 := AB.f 1 (Nat.le_of_ble_eq_true rfl)
  have Af2 := AB.f 2 (Nat.le_of_ble_eq_true rfl)
  have Af3 := AB.f 3 (Nat.le_of_ble_eq_true rfl)
  have Af4 := AB.f 4 (Nat.le_of_ble_eq_true rfl)
  have Af5 := AB.f 5 (Nat.le_of_ble_eq_true rfl)
  have Af6 := AB.f 6 (Nat.le_of_ble_eq_true rfl)
  have Al := AB.lt
  clear V0 V1 V2 V3 V4 V5 V6 Vf0 Vf1 Vf2 Vf3 Vf4 Vf5 Vf6 Vl
  replace VB := VB.drew.below hb7 (by have h := VB.lt; go_size)
  have V0 := VB.c 0 _ rfl
  have V1 := VB.c 1 _ rfl
  have V2 := VB.c 2 _ rfl
  have V3 := VB.c 3 _ rfl
  have V4 := VB.c 4 _ rfl
  have V5 := VB.c 5 _ rfl
  have V6 := VB.c 6 _ rfl
  have Vf0 := VB.f 0 (Nat.le_of_ble_eq_true rfl)
  have Vf1 := VB.f 1 (Nat.le_of_ble_eq_true rfl)
  have Vf2 := VB.f 2 (Nat.le_of_ble_eq_true rfl)
  have Vf3 := VB.f 3 (Nat.le_of_ble_eq_true rfl)
  have Vf4 := VB.f 4 (Nat.le_of_ble_eq_true rfl)
  have Vf5 := VB.f 5 (Nat.le_of_ble_eq_true rfl)
  have Vf6 := VB.f 6 (Nat.le_of_ble_eq_true rfl)
  have Vl := VB.lt
  clear hb7
  try simp only [Act.put, List.setIfInBounds_toArray, List.set_cons_zero, List.set_cons_succ]
  repeat (refine wpI_rd rfl rfl ?_; go_big_quiet_step (fail); refine wpQuiet_nil ?_)
  refine wpI_nil ?_
  try simp only [Act.put, List.setIfInBounds_toArray, List.set_cons_zero, List.set_cons_succ]
  go_wp2_with fail
  go_ret
  exact ⟨ret_true (by simp), by go_grown⟩
set_option maxRecDepth 100000 in
set_option maxHeartbeats 2000000 in
theorem PushcertMatchesSpec_kok (secret time n t ky : Int) (rf : ByteArray) (o nw s : Int) (w : World) (hk : Pl.isKeyB secret = false) (hF : Pl.certF ⟨n, t, ky, rf, o, nw, s⟩ = (0, 0)) (hB : Pl.certB ⟨n, t, ky, rf, o, nw, s⟩ = true) (h60 : rf.size ≤ 60) : Calls Try.prog 3 #[.int .i64 secret, .int .i64 time, .agg (certCells ⟨n, t, ky, rf, o, nw, s⟩).toArray] w fun e w' => e = .returned (.bool true) ∧ Below w.heap.size w w' := by
  unfold certCells
  simp only
  have HN := Lib.hid (show Pl.nonceF secret time = (3, -1) by rw [Pl.nonceF, hk]; rfl)
  have HV := Lib.hid (show Pl.nonceV secret time = 0 by rw [Pl.nonceV, HN.out]; rfl)
  have HF := Lib.hid hF
  have HBB := Lib.hid hB
  have HCV := Lib.hid (show Pl.certV ⟨n, t, ky, rf, o, nw, s⟩ = ⟨n, t, ky, rf, o, nw, Pl.certS ⟨n, t, ky, rf, o, nw, s⟩⟩ by rw [Pl.certV, if_pos (by rw [hF])]; rfl)
  obtain ⟨SG, hSG⟩ : ∃ x, Pl.certS ⟨n, t, ky, rf, o, nw, s⟩ = x := ⟨_, rfl⟩
  rw [hSG] at HCV
  replace hSG := Lib.hid hSG
  clear hF hB
  go_enter Try.func3, Try.ntmps3
  go_wp2_with fail
  refine (pushes_any _).mono ?_
  rintro e w1 ⟨rfl, hb1⟩
  have B1 : Below w.heap.size w w1 := bcall (by go_grown) hb1 (by go_size)
  have s1 := B1.size
  have q1 : w.heap.size + 1 ≤ w1.heap.size := by have h := hb1.size; first | omega | (simp at h; omega)
  have AB := (Blk.new w [.int .i64 n, .int .i64 t, .int .i64 ky, .string rf, .int .i64 o, .int .i64 nw, .int .i64 s] 23 (g := w.heap.size) (by go_size)).below hb1 (by go_size)
  have A0 := AB.c 0 _ rfl
  have A1 := AB.c 1 _ rfl
  have A2 := AB.c 2 _ rfl
  have A3 := AB.c 3 _ rfl
  have A4 := AB.c 4 _ rfl
  have A5 := AB.c 5 _ rfl
  have A6 := AB.c 6 _ rfl
  have Af0 := AB.f 0 (Nat.le_of_ble_eq_true rfl)
  have Af1 := AB.f 1 (Nat.le_of_ble_eq_true rfl)
  have Af2 := AB.f 2 (Nat.le_of_ble_eq_true rfl)
  have Af3 := AB.f 3 (Nat.le_of_ble_eq_true rfl)
  have Af4 := AB.f 4 (Nat.le_of_ble_eq_true rfl)
  have Af5 := AB.f 5 (Nat.le_of_ble_eq_true rfl)
  have Af6 := AB.f 6 (Nat.le_of_ble_eq_true rfl)
  have Al := AB.lt
  clear hb1
  go_wp2_with (first | (go_at_call 18; refine (lin_any _ _ _ _).mono ?_; rintro e w' ⟨rfl, rfl⟩) | (go_at_call 16; refine (rIsKey_any _ _).mono ?_; rintro e w' ⟨rfl, rfl⟩))
  refine (fault_any _ _ _).mono ?_
  rintro e w2 ⟨rfl, hb2⟩
  have B2 : Below w.heap.size w w2 := bcall (by go_grown) hb2 (by go_size)
  have s2 := B2.size
  have q2 : w1.heap.size + 1 ≤ w2.heap.size := by have h := hb2.size; first | omega | (simp at h; omega)
  obtain ⟨ba0, ba1, baf, bag, bal⟩ := (Box2.new w1 (.int .i64 0) (.int .i64 0) 26).below hb2 (by go_size)
  clear A0 A1 A2 A3 A4 A5 A6 Af0 Af1 Af2 Af3 Af4 Af5 Af6 Al
  replace AB := (AB.alloc (.cells #[(.int .i64 0), (.int .i64 0)] 26)).below hb2 (by have h := AB.lt; go_size)
  have A0 := AB.c 0 _ rfl
  have A1 := AB.c 1 _ rfl
  have A2 := AB.c 2 _ rfl
  have A3 := AB.c 3 _ rfl
  have A4 := AB.c 4 _ rfl
  have A5 := AB.c 5 _ rfl
  have A6 := AB.c 6 _ rfl
  have Af0 := AB.f 0 (Nat.le_of_ble_eq_true rfl)
  have Af1 := AB.f 1 (Nat.le_of_ble_eq_true rfl)
  have Af2 := AB.f 2 (Nat.le_of_ble_eq_true rfl)
  have Af3 := AB.f 3 (Nat.le_of_ble_eq_true rfl)
  have Af4 := AB.f 4 (Nat.le_of_ble_eq_true rfl)
  have Af5 := AB.f 5 (Nat.le_of_ble_eq_true rfl)
  have Af6 := AB.f 6 (Nat.le_of_ble_eq_true rfl)
  have Al := AB.lt
  clear hb2
  go_wp2_with fail
  refine (Nonce_any secret time _).mono ?_
  rw [HN.out, HV.out]
  rintro e w3 ⟨rfl, hb3⟩
  have B3 : Below w.heap.size w w3 := bcall (by go_grown) hb3 (by go_size)
  have s3 := B3.size
  have q3 : w2.heap.size ≤ w3.heap.size := by have h := hb3.size; first | omega | (simp at h; omega)
  obtain ⟨ba0, ba1, baf, bag, bal⟩ := ((Box2.mk ba0 ba1 baf bag bal).set (.int .i64 3) (.int .i64 (-1))).below hb3 (by go_size)
  clear A0 A1 A2 A3 A4 A5 A6 Af0 Af1 Af2 Af3 Af4 Af5 Af6 Al
  replace AB := ((AB.far (a := ⟨w1.heap.size, 0, none⟩) (by show w1.heap.size ≠ _; omega) (.int .i64 3)).far (a := ⟨w1.heap.size, 1, none⟩) (by show w1.heap.size ≠ _; omega) (.int .i64 (-1))).below hb3 (by have h := AB.lt; go_size)
  have A0 := AB.c 0 _ rfl
  have A1 := AB.c 1 _ rfl
  have A2 := AB.c 2 _ rfl
  have A3 := AB.c 3 _ rfl
  have A4 := AB.c 4 _ rfl
  have A5 := AB.c 5 _ rfl
  have A6 := AB.c 6 _ rfl
  have Af0 := AB.f 0 (Nat.le_of_ble_eq_true rfl)
  have Af1 := AB.f 1 (Nat.le_of_ble_eq_true rfl)
  have Af2 := AB.f 2 (Nat.le_of_ble_eq_true rfl)
  have Af3 := AB.f 3 (Nat.le_of_ble_eq_true rfl)
  have Af4 := AB.f 4 (Nat.le_of_ble_eq_true rfl)
  have Af5 := AB.f 5 (Nat.le_of_ble_eq_true rfl)
  have Af6 := AB.f 6 (Nat.le_of_ble_eq_true rfl)
  have Al := AB.lt
  clear hb3
  go_wp2_with fail
  refine (CertFault_any ⟨n, t, ky, rf, o, nw, s⟩ _).mono ?_
  rw [HF.out]
  rintro e w4 ⟨rfl, hb4⟩
  have B4 : Below w.heap.size w w4 := bcall (by go_grown) hb4 (by go_size)
  have s4 := B4.size
  have q4 : w3.heap.size + 1 ≤ w4.heap.size := by have h := hb4.size; first | omega | (simp at h; omega)
  obtain ⟨ba0, ba1, baf, bag, bal⟩ := ((Box2.mk ba0 ba1 baf bag bal).alloc (.cells #[(.int .i64 3), (.int .i64 (-1))] 26)).below hb4 (by go_size)
  obtain ⟨bb0, bb1, bbf, bbg, bbl⟩ := (Box2.new w3 (.int .i64 3) (.int .i64 (-1)) 26).below hb4 (by go_size)
  clear A0 A1 A2 A3 A4 A5 A6 Af0 Af1 Af2 Af3 Af4 Af5 Af6 Al
  replace AB := (AB.alloc (.cells #[(.int .i64 3), (.int .i64 (-1))] 26)).below hb4 (by have h := AB.lt; go_size)
  have A0 := AB.c 0 _ rfl
  have A1 := AB.c 1 _ rfl
  have A2 := AB.c 2 _ rfl
  have A3 := AB.c 3 _ rfl
  have A4 := AB.c 4 _ rfl
  have A5 := AB.c 5 _ rfl
  have A6 := AB.c 6 _ rfl
  have Af0 := AB.f 0 (Nat.le_of_ble_eq_true rfl)
  have Af1 := AB.f 1 (Nat.le_of_ble_eq_true rfl)
  have Af2 := AB.f 2 (Nat.le_of_ble_eq_true rfl)
  have Af3 := AB.f 3 (Nat.le_of_ble_eq_true rfl)
  have Af4 := AB.f 4 (Nat.le_of_ble_eq_true rfl)
  have Af5 := AB.f 5 (Nat.le_of_ble_eq_true rfl)
  have Af6 := AB.f 6 (Nat.le_of_ble_eq_true rfl)
  have Al := AB.lt
  clear hb4
  go_wp2_with fail
  refine (Certify_any ⟨n, t, ky, rf, o, nw, s⟩ _).mono ?_
  rw [HF.out, HCV.out]
  rintro e w5 ⟨rfl, hb5⟩
  unfold certCells
  simp only
  have B5 : Below w.heap.size w w5 := bcall (by go_grown) hb5 (by go_size)
  have s5 := B5.size
  have q5 : w4.heap.size ≤ w5.heap.size := by have h := hb5.size; first | omega | (simp at h; omega)
  obtain ⟨ba0, ba1, baf, bag, bal⟩ := ((Box2.mk ba0 ba1 baf bag bal).set (.int .i64 0) (.int .i64 0)).below hb5 (by go_size)
  obtain ⟨bb0, bb1, bbf, bbg, bbl⟩ := ((Box2.mk bb0 bb1 bbf bbg bbl).other (r := w1.heap.size) (by omega) (.int .i64 0) (.int .i64 0)).below hb5 (by go_size)
  clear A0 A1 A2 A3 A4 A5 A6 Af0 Af1 Af2 Af3 Af4 Af5 Af6 Al
  replace AB := ((AB.far (a := ⟨w1.heap.size, 0, none⟩) (by show w1.heap.size ≠ _; omega) (.int .i64 0)).far (a := ⟨w1.heap.size, 1, none⟩) (by show w1.heap.size ≠ _; omega) (.int .i64 0)).below hb5 (by have h := AB.lt; go_size)
  have A0 := AB.c 0 _ rfl
  have A1 := AB.c 1 _ rfl
  have A2 := AB.c 2 _ rfl
  have A3 := AB.c 3 _ rfl
  have A4 := AB.c 4 _ rfl
  have A5 := AB.c 5 _ rfl
  have A6 := AB.c 6 _ rfl
  have Af0 := AB.f 0 (Nat.le_of_ble_eq_true rfl)
  have Af1 := AB.f 1 (Nat.le_of_ble_eq_true rfl)
  have Af2 := AB.f 2 (Nat.le_of_ble_eq_true rfl)
  have Af3 := AB.f 3 (Nat.le_of_ble_eq_true rfl)
  have Af4 := AB.f 4 (Nat.le_of_ble_eq_true rfl)
  have Af5 := AB.f 5 (Nat.le_of_ble_eq_true rfl)
  have Af6 := AB.f 6 (Nat.le_of_ble_eq_true rfl)
  have Al := AB.lt
  clear hb5
  go_wp2_with fail
  refine wp_region_ord [0, 2, 1, 3, 4, 5, 6, 7, 8, 9, 10, 11, 12, 13] (by kernel_rfl) (by kernel_rfl) ?_
  repeat (refine wpI_rd rfl rfl ?_; go_big_quiet_step (fail); refine wpQuiet_nil ?_)
  refine wpI_call (f := 23) (args := #[.agg #[.int .i64 n, .int .i64 t, .int .i64 ky, .string rf, .int .i64 o, .int .i64 nw, .int .i64 s]]) rfl rfl rfl (by simp [go_sem]) ?_
  refine (certValidate_any ⟨n, t, ky, rf, o, nw, s⟩ _).mono ?_
  rw [HF.out]
  rintro e w6 ⟨rfl, hb6⟩
  refine ⟨_, rfl, hb6, ?_⟩
  have B6 : Below w.heap.size w w6 := bcall (by go_grown) hb6 (by go_size)
  have s6 := B6.size
  have q6 : w5.heap.size + 1 ≤ w6.heap.size := by have h := hb6.size; first | omega | (simp at h; omega)
  obtain ⟨ba0, ba1, baf, bag, bal⟩ := (((Box2.mk ba0 ba1 baf bag bal).other (r := w3.heap.size) (by omega) (.int .i64 0) (.int .i64 0)).alloc (.cells #[.int .i64 n, .int .i64 t, .int .i64 ky, .string rf, .int .i64 o, .int .i64 nw, .int .i64 SG] 23)).drew.below hb6 (by go_size)
  obtain ⟨bb0, bb1, bbf, bbg, bbl⟩ := (((Box2.mk bb0 bb1 bbf bbg bbl).set (.int .i64 0) (.int .i64 0)).alloc (.cells #[.int .i64 n, .int .i64 t, .int .i64 ky, .string rf, .int .i64 o, .int .i64 nw, .int .i64 SG] 23)).drew.below hb6 (by go_size)
  clear A0 A1 A2 A3 A4 A5 A6 Af0 Af1 Af2 Af3 Af4 Af5 Af6 Al
  replace AB := (((AB.far (a := ⟨w3.heap.size, 0, none⟩) (by show w3.heap.size ≠ _; omega) (.int .i64 0)).far (a := ⟨w3.heap.size, 1, none⟩) (by show w3.heap.size ≠ _; omega) (.int .i64 0)).alloc (.cells #[.int .i64 n, .int .i64 t, .int .i64 ky, .string rf, .int .i64 o, .int .i64 nw, .int .i64 SG] 23)).drew.below hb6 (by have h := AB.lt; go_size)
  have A0 := AB.c 0 _ rfl
  have A1 := AB.c 1 _ rfl
  have A2 := AB.c 2 _ rfl
  have A3 := AB.c 3 _ rfl
  have A4 := AB.c 4 _ rfl
  have A5 := AB.c 5 _ rfl
  have A6 := AB.c 6 _ rfl
  have Af0 := AB.f 0 (Nat.le_of_ble_eq_true rfl)
  have Af1 := AB.f 1 (Nat.le_of_ble_eq_true rfl)
  have Af2 := AB.f 2 (Nat.le_of_ble_eq_true rfl)
  have Af3 := AB.f 3 (Nat.le_of_ble_eq_true rfl)
  have Af4 := AB.f 4 (Nat.le_of_ble_eq_true rfl)
  have Af5 := AB.f 5 (Nat.le_of_ble_eq_true rfl)
  have Af6 := AB.f 6 (Nat.le_of_ble_eq_true rfl)
  have Al := AB.lt
  have VB := (Blk.new ((w5.setCell ⟨w3.heap.size, 0, none⟩ (.int .i64 0)).setCell ⟨w3.heap.size, 1, none⟩ (.int .i64 0)) [.int .i64 n, .int .i64 t, .int .i64 ky, .string rf, .int .i64 o, .int .i64 nw, .int .i64 SG] 23 (g := w5.heap.size) (by go_size)).drew.below hb6 (by go_size)
  have V0 := VB.c 0 _ rfl
  have V1 := VB.c 1 _ rfl
  have V2 := VB.c 2 _ rfl
  have V3 := VB.c 3 _ rfl
  have V4 := VB.c 4 _ rfl
  have V5 := VB.c 5 _ rfl
  have V6 := VB.c 6 _ rfl
  have Vf0 := VB.f 0 (Nat.le_of_ble_eq_true rfl)
  have Vf1 := VB.f 1 (Nat.le_of_ble_eq_true rfl)
  have Vf2 := VB.f 2 (Nat.le_of_ble_eq_true rfl)
  have Vf3 := VB.f 3 (Nat.le_of_ble_eq_true rfl)
  have Vf4 := VB.f 4 (Nat.le_of_ble_eq_true rfl)
  have Vf5 := VB.f 5 (Nat.le_of_ble_eq_true rfl)
  have Vf6 := VB.f 6 (Nat.le_of_ble_eq_true rfl)
  have Vl := VB.lt
  clear hb6
  try simp only [Act.put, List.setIfInBounds_toArray, List.set_cons_zero, List.set_cons_succ]
  repeat (refine wpI_rd rfl rfl ?_; go_big_quiet_step (fail); refine wpQuiet_nil ?_)
  refine wpI_nil ?_
  try simp only [Act.put, List.setIfInBounds_toArray, List.set_cons_zero, List.set_cons_succ]
  go_wp2_with fail
  refine (CertSignature_ok n t ky rf o nw s _ HBB.out h60).mono ?_
  rw [hSG.out]
  rintro e w7 ⟨rfl, hb7⟩
  have B7 : Below w.heap.size w w7 := bcall (by go_grown) hb7 (by go_size)
  have s7 := B7.size
  have q7 : w6.heap.size ≤ w7.heap.size := by have h := hb7.size; first | omega | (simp at h; omega)
  obtain ⟨ba0, ba1, baf, bag, bal⟩ := (Box2.mk ba0 ba1 baf bag bal).below hb7 (by go_size)
  obtain ⟨bb0, bb1, bbf, bbg, bbl⟩ := (Box2.mk bb0 bb1 bbf bbg bbl).below hb7 (by go_size)
  clear A0 A1 A2 A3 A4 A5 A6 Af0 Af1 Af2 Af3 Af4 Af5 Af6 Al
  replace AB := AB.below hb7 (by have h := AB.lt; go_size)
  have A0 := AB.c 0 _ rfl
  have A1 := AB.c 1 _ rfl
  have A2 := AB.c 2 _ rfl
  have A3 := AB.c 3 _ rfl
  have A4 := AB.c 4 _ rfl
  have A5 := AB.c 5 _ rfl
  have A6 := AB.c 6 _ rfl
  have Af0 := AB.f 0 (Nat.le_of_ble_eq_true rfl)
  have Af1 := AB.f 1 (Nat.le_of_ble_eq_true rfl)
  have Af2 := AB.f 2 (Nat.le_of_ble_eq_true rfl)
  have Af3 := AB.f 3 (Nat.le_of_ble_eq_true rfl)
  have Af4 := AB.f 4 (Nat.le_of_ble_eq_true rfl)
  have Af5 := AB.f 5 (Nat.le_of_ble_eq_true rfl)
  have Af6 := AB.f 6 (Nat.le_of_ble_eq_true rfl)
  have Al := AB.lt
  clear V0 V1 V2 V3 V4 V5 V6 Vf0 Vf1 Vf2 Vf3 Vf4 Vf5 Vf6 Vl
  replace VB := VB.below hb7 (by have h := VB.lt; go_size)
  have V0 := VB.c 0 _ rfl
  have V1 := VB.c 1 _ rfl
  have V2 := VB.c 2 _ rfl
  have V3 := VB.c 3 _ rfl
  have V4 := VB.c 4 _ rfl
  have V5 := VB.c 5 _ rfl
  have V6 := VB.c 6 _ rfl
  have Vf0 := VB.f 0 (Nat.le_of_ble_eq_true rfl)
  have Vf1 := VB.f 1 (Nat.le_of_ble_eq_true rfl)
  have Vf2 := VB.f 2 (Nat.le_of_ble_eq_true rfl)
  have Vf3 := VB.f 3 (Nat.le_of_ble_eq_true rfl)
  have Vf4 := VB.f 4 (Nat.le_of_ble_eq_true rfl)
  have Vf5 := VB.f 5 (Nat.le_of_ble_eq_true rfl)
  have Vf6 := VB.f 6 (Nat.le_of_ble_eq_true rfl)
  have Vl := VB.lt
  clear hb7
  go_wp2_with fail
  go_ret
  exact ⟨ret_true (by simp), by go_grown⟩
set_option maxRecDepth 100000 in
set_option maxHeartbeats 2000000 in
theorem PushcertMatchesSpec_tbad (secret time n t ky : Int) (rf : ByteArray) (o nw s : Int) (w : World) (hk : Pl.isKeyB secret = true) (ht : Pl.inB time 0 100000 = false) (hF : (Pl.certF ⟨n, t, ky, rf, o, nw, s⟩).1 ≠ 0) : Calls Try.prog 3 #[.int .i64 secret, .int .i64 time, .agg (certCells ⟨n, t, ky, rf, o, nw, s⟩).toArray] w fun e w' => e = .returned (.bool true) ∧ Below w.heap.size w w' := by
  unfold certCells
  simp only
  have HN := Lib.hid (show Pl.nonceF secret time = (3, 0) by rw [Pl.nonceF, hk]; rw [show Pl.isTimeB time = false from ht]; rfl)
  have HV := Lib.hid (show Pl.nonceV secret time = 0 by rw [Pl.nonceV, HN.out]; rfl)
  obtain ⟨G, hG⟩ : ∃ G, Pl.certF ⟨n, t, ky, rf, o, nw, s⟩ = G := ⟨_, rfl⟩
  have HCV := Lib.hid (show Pl.certV ⟨n, t, ky, rf, o, nw, s⟩ = Pl.Cert.zero by rw [Pl.certV, if_neg hF])
  rw [hG] at hF
  have HF := Lib.hid hG
  have u1 : (G.1 == 0) = false := by simp [hF]
  have u2 : (G.1 != 0) = true := by simp [hF]
  clear hG hF
  go_enter Try.func3, Try.ntmps3
  go_wp2_with fail
  refine (pushes_any _).mono ?_
  rintro e w1 ⟨rfl, hb1⟩
  have B1 : Below w.heap.size w w1 := bcall (by go_grown) hb1 (by go_size)
  have s1 := B1.size
  have q1 : w.heap.size + 1 ≤ w1.heap.size := by have h := hb1.size; first | omega | (simp at h; omega)
  have AB := (Blk.new w [.int .i64 n, .int .i64 t, .int .i64 ky, .string rf, .int .i64 o, .int .i64 nw, .int .i64 s] 23 (g := w.heap.size) (by go_size)).below hb1 (by go_size)
  have A0 := AB.c 0 _ rfl
  have A1 := AB.c 1 _ rfl
  have A2 := AB.c 2 _ rfl
  have A3 := AB.c 3 _ rfl
  have A4 := AB.c 4 _ rfl
  have A5 := AB.c 5 _ rfl
  have A6 := AB.c 6 _ rfl
  have Af0 := AB.f 0 (Nat.le_of_ble_eq_true rfl)
  have Af1 := AB.f 1 (Nat.le_of_ble_eq_true rfl)
  have Af2 := AB.f 2 (Nat.le_of_ble_eq_true rfl)
  have Af3 := AB.f 3 (Nat.le_of_ble_eq_true rfl)
  have Af4 := AB.f 4 (Nat.le_of_ble_eq_true rfl)
  have Af5 := AB.f 5 (Nat.le_of_ble_eq_true rfl)
  have Af6 := AB.f 6 (Nat.le_of_ble_eq_true rfl)
  have Al := AB.lt
  clear hb1
  go_wp2_with (first | (go_at_call 18; refine (lin_any _ _ _ _).mono ?_; rintro e w' ⟨rfl, rfl⟩) | (go_at_call 16; refine (rIsKey_any _ _).mono ?_; rintro e w' ⟨rfl, rfl⟩))
  refine (fault_any _ _ _).mono ?_
  rintro e w2 ⟨rfl, hb2⟩
  have B2 : Below w.heap.size w w2 := bcall (by go_grown) hb2 (by go_size)
  have s2 := B2.size
  have q2 : w1.heap.size + 1 ≤ w2.heap.size := by have h := hb2.size; first | omega | (simp at h; omega)
  obtain ⟨ba0, ba1, baf, bag, bal⟩ := (Box2.new w1 (.int .i64 0) (.int .i64 0) 26).below hb2 (by go_size)
  clear A0 A1 A2 A3 A4 A5 A6 Af0 Af1 Af2 Af3 Af4 Af5 Af6 Al
  replace AB := (AB.alloc (.cells #[(.int .i64 0), (.int .i64 0)] 26)).below hb2 (by have h := AB.lt; go_size)
  have A0 := AB.c 0 _ rfl
  have A1 := AB.c 1 _ rfl
  have A2 := AB.c 2 _ rfl
  have A3 := AB.c 3 _ rfl
  have A4 := AB.c 4 _ rfl
  have A5 := AB.c 5 _ rfl
  have A6 := AB.c 6 _ rfl
  have Af0 := AB.f 0 (Nat.le_of_ble_eq_true rfl)
  have Af1 := AB.f 1 (Nat.le_of_ble_eq_true rfl)
  have Af2 := AB.f 2 (Nat.le_of_ble_eq_true rfl)
  have Af3 := AB.f 3 (Nat.le_of_ble_eq_true rfl)
  have Af4 := AB.f 4 (Nat.le_of_ble_eq_true rfl)
  have Af5 := AB.f 5 (Nat.le_of_ble_eq_true rfl)
  have Af6 := AB.f 6 (Nat.le_of_ble_eq_true rfl)
  have Al := AB.lt
  clear hb2
  go_wp2_with fail
  refine (Nonce_any secret time _).mono ?_
  rw [HN.out, HV.out]
  rintro e w3 ⟨rfl, hb3⟩
  have B3 : Below w.heap.size w w3 := bcall (by go_grown) hb3 (by go_size)
  have s3 := B3.size
  have q3 : w2.heap.size ≤ w3.heap.size := by have h := hb3.size; first | omega | (simp at h; omega)
  obtain ⟨ba0, ba1, baf, bag, bal⟩ := ((Box2.mk ba0 ba1 baf bag bal).set (.int .i64 3) (.int .i64 0)).below hb3 (by go_size)
  clear A0 A1 A2 A3 A4 A5 A6 Af0 Af1 Af2 Af3 Af4 Af5 Af6 Al
  replace AB := ((AB.far (a := ⟨w1.heap.size, 0, none⟩) (by show w1.heap.size ≠ _; omega) (.int .i64 3)).far (a := ⟨w1.heap.size, 1, none⟩) (by show w1.heap.size ≠ _; omega) (.int .i64 0)).below hb3 (by have h := AB.lt; go_size)
  have A0 := AB.c 0 _ rfl
  have A1 := AB.c 1 _ rfl
  have A2 := AB.c 2 _ rfl
  have A3 := AB.c 3 _ rfl
  have A4 := AB.c 4 _ rfl
  have A5 := AB.c 5 _ rfl
  have A6 := AB.c 6 _ rfl
  have Af0 := AB.f 0 (Nat.le_of_ble_eq_true rfl)
  have Af1 := AB.f 1 (Nat.le_of_ble_eq_true rfl)
  have Af2 := AB.f 2 (Nat.le_of_ble_eq_true rfl)
  have Af3 := AB.f 3 (Nat.le_of_ble_eq_true rfl)
  have Af4 := AB.f 4 (Nat.le_of_ble_eq_true rfl)
  have Af5 := AB.f 5 (Nat.le_of_ble_eq_true rfl)
  have Af6 := AB.f 6 (Nat.le_of_ble_eq_true rfl)
  have Al := AB.lt
  clear hb3
  go_wp2_with fail
  refine (CertFault_any ⟨n, t, ky, rf, o, nw, s⟩ _).mono ?_
  rw [HF.out]
  rintro e w4 ⟨rfl, hb4⟩
  have B4 : Below w.heap.size w w4 := bcall (by go_grown) hb4 (by go_size)
  have s4 := B4.size
  have q4 : w3.heap.size + 1 ≤ w4.heap.size := by have h := hb4.size; first | omega | (simp at h; omega)
  obtain ⟨ba0, ba1, baf, bag, bal⟩ := ((Box2.mk ba0 ba1 baf bag bal).alloc (.cells #[(.int .i64 3), (.int .i64 0)] 26)).below hb4 (by go_size)
  obtain ⟨bb0, bb1, bbf, bbg, bbl⟩ := (Box2.new w3 (.int .i64 3) (.int .i64 0) 26).below hb4 (by go_size)
  clear A0 A1 A2 A3 A4 A5 A6 Af0 Af1 Af2 Af3 Af4 Af5 Af6 Al
  replace AB := (AB.alloc (.cells #[(.int .i64 3), (.int .i64 0)] 26)).below hb4 (by have h := AB.lt; go_size)
  have A0 := AB.c 0 _ rfl
  have A1 := AB.c 1 _ rfl
  have A2 := AB.c 2 _ rfl
  have A3 := AB.c 3 _ rfl
  have A4 := AB.c 4 _ rfl
  have A5 := AB.c 5 _ rfl
  have A6 := AB.c 6 _ rfl
  have Af0 := AB.f 0 (Nat.le_of_ble_eq_true rfl)
  have Af1 := AB.f 1 (Nat.le_of_ble_eq_true rfl)
  have Af2 := AB.f 2 (Nat.le_of_ble_eq_true rfl)
  have Af3 := AB.f 3 (Nat.le_of_ble_eq_true rfl)
  have Af4 := AB.f 4 (Nat.le_of_ble_eq_true rfl)
  have Af5 := AB.f 5 (Nat.le_of_ble_eq_true rfl)
  have Af6 := AB.f 6 (Nat.le_of_ble_eq_true rfl)
  have Al := AB.lt
  clear hb4
  go_wp2_with fail
  refine (Certify_any ⟨n, t, ky, rf, o, nw, s⟩ _).mono ?_
  rw [HF.out, HCV.out]
  rintro e w5 ⟨rfl, hb5⟩
  unfold certCells Pl.Cert.zero
  simp only
  have B5 : Below w.heap.size w w5 := bcall (by go_grown) hb5 (by go_size)
  have s5 := B5.size
  have q5 : w4.heap.size ≤ w5.heap.size := by have h := hb5.size; first | omega | (simp at h; omega)
  obtain ⟨ba0, ba1, baf, bag, bal⟩ := ((Box2.mk ba0 ba1 baf bag bal).set (.int .i64 G.1) (.int .i64 G.2)).below hb5 (by go_size)
  obtain ⟨bb0, bb1, bbf, bbg, bbl⟩ := ((Box2.mk bb0 bb1 bbf bbg bbl).other (r := w1.heap.size) (by omega) (.int .i64 G.1) (.int .i64 G.2)).below hb5 (by go_size)
  clear A0 A1 A2 A3 A4 A5 A6 Af0 Af1 Af2 Af3 Af4 Af5 Af6 Al
  replace AB := ((AB.far (a := ⟨w1.heap.size, 0, none⟩) (by show w1.heap.size ≠ _; omega) (.int .i64 G.1)).far (a := ⟨w1.heap.size, 1, none⟩) (by show w1.heap.size ≠ _; omega) (.int .i64 G.2)).below hb5 (by have h := AB.lt; go_size)
  have A0 := AB.c 0 _ rfl
  have A1 := AB.c 1 _ rfl
  have A2 := AB.c 2 _ rfl
  have A3 := AB.c 3 _ rfl
  have A4 := AB.c 4 _ rfl
  have A5 := AB.c 5 _ rfl
  have A6 := AB.c 6 _ rfl
  have Af0 := AB.f 0 (Nat.le_of_ble_eq_true rfl)
  have Af1 := AB.f 1 (Nat.le_of_ble_eq_true rfl)
  have Af2 := AB.f 2 (Nat.le_of_ble_eq_true rfl)
  have Af3 := AB.f 3 (Nat.le_of_ble_eq_true rfl)
  have Af4 := AB.f 4 (Nat.le_of_ble_eq_true rfl)
  have Af5 := AB.f 5 (Nat.le_of_ble_eq_true rfl)
  have Af6 := AB.f 6 (Nat.le_of_ble_eq_true rfl)
  have Al := AB.lt
  clear hb5
  go_wp2_with fail
  refine wp_region_ord [0, 2, 1, 3, 4, 5, 6, 7, 8, 9, 10, 11, 12, 13] (by kernel_rfl) (by kernel_rfl) ?_
  repeat (refine wpI_rd rfl rfl ?_; go_big_quiet_step (fail); refine wpQuiet_nil ?_)
  refine wpI_call (f := 23) (args := #[.agg #[.int .i64 n, .int .i64 t, .int .i64 ky, .string rf, .int .i64 o, .int .i64 nw, .int .i64 s]]) rfl rfl rfl (by simp [go_sem]) ?_
  refine (certValidate_any ⟨n, t, ky, rf, o, nw, s⟩ _).mono ?_
  rw [HF.out]
  rintro e w6 ⟨rfl, hb6⟩
  refine ⟨_, rfl, hb6, ?_⟩
  have B6 : Below w.heap.size w w6 := bcall (by go_grown) hb6 (by go_size)
  have s6 := B6.size
  have q6 : w5.heap.size + 1 ≤ w6.heap.size := by have h := hb6.size; first | omega | (simp at h; omega)
  obtain ⟨ba0, ba1, baf, bag, bal⟩ := (((Box2.mk ba0 ba1 baf bag bal).other (r := w3.heap.size) (by omega) (.int .i64 G.1) (.int .i64 G.2)).alloc (.cells #[.int .i64 0, .int .i64 0, .int .i64 0, .string ⟨#[]⟩, .int .i64 0, .int .i64 0, .int .i64 0] 23)).drew.below hb6 (by go_size)
  obtain ⟨bb0, bb1, bbf, bbg, bbl⟩ := (((Box2.mk bb0 bb1 bbf bbg bbl).set (.int .i64 G.1) (.int .i64 G.2)).alloc (.cells #[.int .i64 0, .int .i64 0, .int .i64 0, .string ⟨#[]⟩, .int .i64 0, .int .i64 0, .int .i64 0] 23)).drew.below hb6 (by go_size)
  clear A0 A1 A2 A3 A4 A5 A6 Af0 Af1 Af2 Af3 Af4 Af5 Af6 Al
  replace AB := (((AB.far (a := ⟨w3.heap.size, 0, none⟩) (by show w3.heap.size ≠ _; omega) (.int .i64 G.1)).far (a := ⟨w3.heap.size, 1, none⟩) (by show w3.heap.size ≠ _; omega) (.int .i64 G.2)).alloc (.cells #[.int .i64 0, .int .i64 0, .int .i64 0, .string ⟨#[]⟩, .int .i64 0, .int .i64 0, .int .i64 0] 23)).drew.below hb6 (by have h := AB.lt; go_size)
  have A0 := AB.c 0 _ rfl
  have A1 := AB.c 1 _ rfl
  have A2 := AB.c 2 _ rfl
  have A3 := AB.c 3 _ rfl
  have A4 := AB.c 4 _ rfl
  have A5 := AB.c 5 _ rfl
  have A6 := AB.c 6 _ rfl
  have Af0 := AB.f 0 (Nat.le_of_ble_eq_true rfl)
  have Af1 := AB.f 1 (Nat.le_of_ble_eq_true rfl)
  have Af2 := AB.f 2 (Nat.le_of_ble_eq_true rfl)
  have Af3 := AB.f 3 (Nat.le_of_ble_eq_true rfl)
  have Af4 := AB.f 4 (Nat.le_of_ble_eq_true rfl)
  have Af5 := AB.f 5 (Nat.le_of_ble_eq_true rfl)
  have Af6 := AB.f 6 (Nat.le_of_ble_eq_true rfl)
  have Al := AB.lt
  have VB := (Blk.new ((w5.setCell ⟨w3.heap.size, 0, none⟩ (.int .i64 G.1)).setCell ⟨w3.heap.size, 1, none⟩ (.int .i64 G.2)) [.int .i64 0, .int .i64 0, .int .i64 0, .string ⟨#[]⟩, .int .i64 0, .int .i64 0, .int .i64 0] 23 (g := w5.heap.size) (by go_size)).drew.below hb6 (by go_size)
  have V0 := VB.c 0 _ rfl
  have V1 := VB.c 1 _ rfl
  have V2 := VB.c 2 _ rfl
  have V3 := VB.c 3 _ rfl
  have V4 := VB.c 4 _ rfl
  have V5 := VB.c 5 _ rfl
  have V6 := VB.c 6 _ rfl
  have Vf0 := VB.f 0 (Nat.le_of_ble_eq_true rfl)
  have Vf1 := VB.f 1 (Nat.le_of_ble_eq_true rfl)
  have Vf2 := VB.f 2 (Nat.le_of_ble_eq_true rfl)
  have Vf3 := VB.f 3 (Nat.le_of_ble_eq_true rfl)
  have Vf4 := VB.f 4 (Nat.le_of_ble_eq_true rfl)
  have Vf5 := VB.f 5 (Nat.le_of_ble_eq_true rfl)
  have Vf6 := VB.f 6 (Nat.le_of_ble_eq_true rfl)
  have Vl := VB.lt
  clear hb6
  try simp only [Act.put, List.setIfInBounds_toArray, List.set_cons_zero, List.set_cons_succ]
  repeat (refine wpI_rd rfl rfl ?_; go_big_quiet_step (fail); refine wpQuiet_nil ?_)
  refine wpI_nil ?_
  try simp only [Act.put, List.setIfInBounds_toArray, List.set_cons_zero, List.set_cons_succ]
  go_wp2_with fail
  refine wp_region_ord [0, 2, 1, 3, 4, 5, 6, 7, 8, 9, 10, 11, 12, 13, 14] (by kernel_rfl) (by kernel_rfl) ?_
  repeat (refine wpI_rd rfl rfl ?_; go_big_quiet_step (fail); refine wpQuiet_nil ?_)
  refine wpI_call (f := 23) (args := #[.agg #[.int .i64 n, .int .i64 t, .int .i64 ky, .string rf, .int .i64 o, .int .i64 nw, .int .i64 s]]) rfl rfl rfl (by simp [go_sem]) ?_
  refine (certValidate_any ⟨n, t, ky, rf, o, nw, s⟩ _).mono ?_
  rw [HF.out]
  rintro e w7 ⟨rfl, hb7⟩
  refine ⟨_, rfl, hb7, ?_⟩
  have B7 : Below w.heap.size w w7 := bcall (by go_grown) hb7 (by go_size)
  have s7 := B7.size
  have q7 : w6.heap.size ≤ w7.heap.size := by have h := hb7.size; first | omega | (simp at h; omega)
  obtain ⟨ba0, ba1, baf, bag, bal⟩ := (Box2.mk ba0 ba1 baf bag bal).drew.below hb7 (by go_size)
  obtain ⟨bb0, bb1, bbf, bbg, bbl⟩ := (Box2.mk bb0 bb1 bbf bbg bbl).drew.below hb7 (by go_size)
  clear A0 A1 A2 A3 A4 A5 A6 Af0 Af1 Af2 Af3 Af4 Af5 Af6 Al
  replace AB := AB.drew.below hb7 (by have h := AB.lt; go_size)
  have A0 := AB.c 0 _ rfl
  have A1 := AB.c 1 _ rfl
  have A2 := AB.c 2 _ rfl
  have A3 := AB.c 3 _ rfl
  have A4 := AB.c 4 _ rfl
  have A5 := AB.c 5 _ rfl
  have A6 := AB.c 6 _ rfl
  have Af0 := AB.f 0 (Nat.le_of_ble_eq_true rfl)
  have Af1 := AB.f 1 (Nat.le_of_ble_eq_true rfl)
  have Af2 := AB.f 2 (Nat.le_of_ble_eq_true rfl)
  have Af3 := AB.f 3 (Nat.le_of_ble_eq_true rfl)
  have Af4 := AB.f 4 (Nat.le_of_ble_eq_true rfl)
  have Af5 := AB.f 5 (Nat.le_of_ble_eq_true rfl)
  have Af6 := AB.f 6 (Nat.le_of_ble_eq_true rfl)
  have Al := AB.lt
  clear V0 V1 V2 V3 V4 V5 V6 Vf0 Vf1 Vf2 Vf3 Vf4 Vf5 Vf6 Vl
  replace VB := VB.drew.below hb7 (by have h := VB.lt; go_size)
  have V0 := VB.c 0 _ rfl
  have V1 := VB.c 1 _ rfl
  have V2 := VB.c 2 _ rfl
  have V3 := VB.c 3 _ rfl
  have V4 := VB.c 4 _ rfl
  have V5 := VB.c 5 _ rfl
  have V6 := VB.c 6 _ rfl
  have Vf0 := VB.f 0 (Nat.le_of_ble_eq_true rfl)
  have Vf1 := VB.f 1 (Nat.le_of_ble_eq_true rfl)
  have Vf2 := VB.f 2 (Nat.le_of_ble_eq_true rfl)
  have Vf3 := VB.f 3 (Nat.le_of_ble_eq_true rfl)
  have Vf4 := VB.f 4 (Nat.le_of_ble_eq_true rfl)
  have Vf5 := VB.f 5 (Nat.le_of_ble_eq_true rfl)
  have Vf6 := VB.f 6 (Nat.le_of_ble_eq_true rfl)
  have Vl := VB.lt
  clear hb7
  try simp only [Act.put, List.setIfInBounds_toArray, List.set_cons_zero, List.set_cons_succ]
  repeat (refine wpI_rd rfl rfl ?_; go_big_quiet_step (fail); refine wpQuiet_nil ?_)
  refine wpI_nil ?_
  try simp only [Act.put, List.setIfInBounds_toArray, List.set_cons_zero, List.set_cons_succ]
  go_wp2_with fail
  go_ret
  exact ⟨ret_true (by simp), by go_grown⟩
set_option maxRecDepth 100000 in
set_option maxHeartbeats 2000000 in
theorem PushcertMatchesSpec_tok (secret time n t ky : Int) (rf : ByteArray) (o nw s : Int) (w : World) (hk : Pl.isKeyB secret = true) (ht : Pl.inB time 0 100000 = false) (hF : Pl.certF ⟨n, t, ky, rf, o, nw, s⟩ = (0, 0)) (hB : Pl.certB ⟨n, t, ky, rf, o, nw, s⟩ = true) (h60 : rf.size ≤ 60) : Calls Try.prog 3 #[.int .i64 secret, .int .i64 time, .agg (certCells ⟨n, t, ky, rf, o, nw, s⟩).toArray] w fun e w' => e = .returned (.bool true) ∧ Below w.heap.size w w' := by
  unfold certCells
  simp only
  have HN := Lib.hid (show Pl.nonceF secret time = (3, 0) by rw [Pl.nonceF, hk]; rw [show Pl.isTimeB time = false from ht]; rfl)
  have HV := Lib.hid (show Pl.nonceV secret time = 0 by rw [Pl.nonceV, HN.out]; rfl)
  have HF := Lib.hid hF
  have HBB := Lib.hid hB
  have HCV := Lib.hid (show Pl.certV ⟨n, t, ky, rf, o, nw, s⟩ = ⟨n, t, ky, rf, o, nw, Pl.certS ⟨n, t, ky, rf, o, nw, s⟩⟩ by rw [Pl.certV, if_pos (by rw [hF])]; rfl)
  obtain ⟨SG, hSG⟩ : ∃ x, Pl.certS ⟨n, t, ky, rf, o, nw, s⟩ = x := ⟨_, rfl⟩
  rw [hSG] at HCV
  replace hSG := Lib.hid hSG
  clear hF hB
  go_enter Try.func3, Try.ntmps3
  go_wp2_with fail
  refine (pushes_any _).mono ?_
  rintro e w1 ⟨rfl, hb1⟩
  have B1 : Below w.heap.size w w1 := bcall (by go_grown) hb1 (by go_size)
  have s1 := B1.size
  have q1 : w.heap.size + 1 ≤ w1.heap.size := by have h := hb1.size; first | omega | (simp at h; omega)
  have AB := (Blk.new w [.int .i64 n, .int .i64 t, .int .i64 ky, .string rf, .int .i64 o, .int .i64 nw, .int .i64 s] 23 (g := w.heap.size) (by go_size)).below hb1 (by go_size)
  have A0 := AB.c 0 _ rfl
  have A1 := AB.c 1 _ rfl
  have A2 := AB.c 2 _ rfl
  have A3 := AB.c 3 _ rfl
  have A4 := AB.c 4 _ rfl
  have A5 := AB.c 5 _ rfl
  have A6 := AB.c 6 _ rfl
  have Af0 := AB.f 0 (Nat.le_of_ble_eq_true rfl)
  have Af1 := AB.f 1 (Nat.le_of_ble_eq_true rfl)
  have Af2 := AB.f 2 (Nat.le_of_ble_eq_true rfl)
  have Af3 := AB.f 3 (Nat.le_of_ble_eq_true rfl)
  have Af4 := AB.f 4 (Nat.le_of_ble_eq_true rfl)
  have Af5 := AB.f 5 (Nat.le_of_ble_eq_true rfl)
  have Af6 := AB.f 6 (Nat.le_of_ble_eq_true rfl)
  have Al := AB.lt
  clear hb1
  go_wp2_with (first | (go_at_call 18; refine (lin_any _ _ _ _).mono ?_; rintro e w' ⟨rfl, rfl⟩) | (go_at_call 16; refine (rIsKey_any _ _).mono ?_; rintro e w' ⟨rfl, rfl⟩))
  refine (fault_any _ _ _).mono ?_
  rintro e w2 ⟨rfl, hb2⟩
  have B2 : Below w.heap.size w w2 := bcall (by go_grown) hb2 (by go_size)
  have s2 := B2.size
  have q2 : w1.heap.size + 1 ≤ w2.heap.size := by have h := hb2.size; first | omega | (simp at h; omega)
  obtain ⟨ba0, ba1, baf, bag, bal⟩ := (Box2.new w1 (.int .i64 0) (.int .i64 0) 26).below hb2 (by go_size)
  clear A0 A1 A2 A3 A4 A5 A6 Af0 Af1 Af2 Af3 Af4 Af5 Af6 Al
  replace AB := (AB.alloc (.cells #[(.int .i64 0), (.int .i64 0)] 26)).below hb2 (by have h := AB.lt; go_size)
  have A0 := AB.c 0 _ rfl
  have A1 := AB.c 1 _ rfl
  have A2 := AB.c 2 _ rfl
  have A3 := AB.c 3 _ rfl
  have A4 := AB.c 4 _ rfl
  have A5 := AB.c 5 _ rfl
  have A6 := AB.c 6 _ rfl
  have Af0 := AB.f 0 (Nat.le_of_ble_eq_true rfl)
  have Af1 := AB.f 1 (Nat.le_of_ble_eq_true rfl)
  have Af2 := AB.f 2 (Nat.le_of_ble_eq_true rfl)
  have Af3 := AB.f 3 (Nat.le_of_ble_eq_true rfl)
  have Af4 := AB.f 4 (Nat.le_of_ble_eq_true rfl)
  have Af5 := AB.f 5 (Nat.le_of_ble_eq_true rfl)
  have Af6 := AB.f 6 (Nat.le_of_ble_eq_true rfl)
  have Al := AB.lt
  clear hb2
  go_wp2_with fail
  refine (Nonce_any secret time _).mono ?_
  rw [HN.out, HV.out]
  rintro e w3 ⟨rfl, hb3⟩
  have B3 : Below w.heap.size w w3 := bcall (by go_grown) hb3 (by go_size)
  have s3 := B3.size
  have q3 : w2.heap.size ≤ w3.heap.size := by have h := hb3.size; first | omega | (simp at h; omega)
  obtain ⟨ba0, ba1, baf, bag, bal⟩ := ((Box2.mk ba0 ba1 baf bag bal).set (.int .i64 3) (.int .i64 0)).below hb3 (by go_size)
  clear A0 A1 A2 A3 A4 A5 A6 Af0 Af1 Af2 Af3 Af4 Af5 Af6 Al
  replace AB := ((AB.far (a := ⟨w1.heap.size, 0, none⟩) (by show w1.heap.size ≠ _; omega) (.int .i64 3)).far (a := ⟨w1.heap.size, 1, none⟩) (by show w1.heap.size ≠ _; omega) (.int .i64 0)).below hb3 (by have h := AB.lt; go_size)
  have A0 := AB.c 0 _ rfl
  have A1 := AB.c 1 _ rfl
  have A2 := AB.c 2 _ rfl
  have A3 := AB.c 3 _ rfl
  have A4 := AB.c 4 _ rfl
  have A5 := AB.c 5 _ rfl
  have A6 := AB.c 6 _ rfl
  have Af0 := AB.f 0 (Nat.le_of_ble_eq_true rfl)
  have Af1 := AB.f 1 (Nat.le_of_ble_eq_true rfl)
  have Af2 := AB.f 2 (Nat.le_of_ble_eq_true rfl)
  have Af3 := AB.f 3 (Nat.le_of_ble_eq_true rfl)
  have Af4 := AB.f 4 (Nat.le_of_ble_eq_true rfl)
  have Af5 := AB.f 5 (Nat.le_of_ble_eq_true rfl)
  have Af6 := AB.f 6 (Nat.le_of_ble_eq_true rfl)
  have Al := AB.lt
  clear hb3
  go_wp2_with fail
  refine (CertFault_any ⟨n, t, ky, rf, o, nw, s⟩ _).mono ?_
  rw [HF.out]
  rintro e w4 ⟨rfl, hb4⟩
  have B4 : Below w.heap.size w w4 := bcall (by go_grown) hb4 (by go_size)
  have s4 := B4.size
  have q4 : w3.heap.size + 1 ≤ w4.heap.size := by have h := hb4.size; first | omega | (simp at h; omega)
  obtain ⟨ba0, ba1, baf, bag, bal⟩ := ((Box2.mk ba0 ba1 baf bag bal).alloc (.cells #[(.int .i64 3), (.int .i64 0)] 26)).below hb4 (by go_size)
  obtain ⟨bb0, bb1, bbf, bbg, bbl⟩ := (Box2.new w3 (.int .i64 3) (.int .i64 0) 26).below hb4 (by go_size)
  clear A0 A1 A2 A3 A4 A5 A6 Af0 Af1 Af2 Af3 Af4 Af5 Af6 Al
  replace AB := (AB.alloc (.cells #[(.int .i64 3), (.int .i64 0)] 26)).below hb4 (by have h := AB.lt; go_size)
  have A0 := AB.c 0 _ rfl
  have A1 := AB.c 1 _ rfl
  have A2 := AB.c 2 _ rfl
  have A3 := AB.c 3 _ rfl
  have A4 := AB.c 4 _ rfl
  have A5 := AB.c 5 _ rfl
  have A6 := AB.c 6 _ rfl
  have Af0 := AB.f 0 (Nat.le_of_ble_eq_true rfl)
  have Af1 := AB.f 1 (Nat.le_of_ble_eq_true rfl)
  have Af2 := AB.f 2 (Nat.le_of_ble_eq_true rfl)
  have Af3 := AB.f 3 (Nat.le_of_ble_eq_true rfl)
  have Af4 := AB.f 4 (Nat.le_of_ble_eq_true rfl)
  have Af5 := AB.f 5 (Nat.le_of_ble_eq_true rfl)
  have Af6 := AB.f 6 (Nat.le_of_ble_eq_true rfl)
  have Al := AB.lt
  clear hb4
  go_wp2_with fail
  refine (Certify_any ⟨n, t, ky, rf, o, nw, s⟩ _).mono ?_
  rw [HF.out, HCV.out]
  rintro e w5 ⟨rfl, hb5⟩
  unfold certCells
  simp only
  have B5 : Below w.heap.size w w5 := bcall (by go_grown) hb5 (by go_size)
  have s5 := B5.size
  have q5 : w4.heap.size ≤ w5.heap.size := by have h := hb5.size; first | omega | (simp at h; omega)
  obtain ⟨ba0, ba1, baf, bag, bal⟩ := ((Box2.mk ba0 ba1 baf bag bal).set (.int .i64 0) (.int .i64 0)).below hb5 (by go_size)
  obtain ⟨bb0, bb1, bbf, bbg, bbl⟩ := ((Box2.mk bb0 bb1 bbf bbg bbl).other (r := w1.heap.size) (by omega) (.int .i64 0) (.int .i64 0)).below hb5 (by go_size)
  clear A0 A1 A2 A3 A4 A5 A6 Af0 Af1 Af2 Af3 Af4 Af5 Af6 Al
  replace AB := ((AB.far (a := ⟨w1.heap.size, 0, none⟩) (by show w1.heap.size ≠ _; omega) (.int .i64 0)).far (a := ⟨w1.heap.size, 1, none⟩) (by show w1.heap.size ≠ _; omega) (.int .i64 0)).below hb5 (by have h := AB.lt; go_size)
  have A0 := AB.c 0 _ rfl
  have A1 := AB.c 1 _ rfl
  have A2 := AB.c 2 _ rfl
  have A3 := AB.c 3 _ rfl
  have A4 := AB.c 4 _ rfl
  have A5 := AB.c 5 _ rfl
  have A6 := AB.c 6 _ rfl
  have Af0 := AB.f 0 (Nat.le_of_ble_eq_true rfl)
  have Af1 := AB.f 1 (Nat.le_of_ble_eq_true rfl)
  have Af2 := AB.f 2 (Nat.le_of_ble_eq_true rfl)
  have Af3 := AB.f 3 (Nat.le_of_ble_eq_true rfl)
  have Af4 := AB.f 4 (Nat.le_of_ble_eq_true rfl)
  have Af5 := AB.f 5 (Nat.le_of_ble_eq_true rfl)
  have Af6 := AB.f 6 (Nat.le_of_ble_eq_true rfl)
  have Al := AB.lt
  clear hb5
  go_wp2_with fail
  refine wp_region_ord [0, 2, 1, 3, 4, 5, 6, 7, 8, 9, 10, 11, 12, 13] (by kernel_rfl) (by kernel_rfl) ?_
  repeat (refine wpI_rd rfl rfl ?_; go_big_quiet_step (fail); refine wpQuiet_nil ?_)
  refine wpI_call (f := 23) (args := #[.agg #[.int .i64 n, .int .i64 t, .int .i64 ky, .string rf, .int .i64 o, .int .i64 nw, .int .i64 s]]) rfl rfl rfl (by simp [go_sem]) ?_
  refine (certValidate_any ⟨n, t, ky, rf, o, nw, s⟩ _).mono ?_
  rw [HF.out]
  rintro e w6 ⟨rfl, hb6⟩
  refine ⟨_, rfl, hb6, ?_⟩
  have B6 : Below w.heap.size w w6 := bcall (by go_grown) hb6 (by go_size)
  have s6 := B6.size
  have q6 : w5.heap.size + 1 ≤ w6.heap.size := by have h := hb6.size; first | omega | (simp at h; omega)
  obtain ⟨ba0, ba1, baf, bag, bal⟩ := (((Box2.mk ba0 ba1 baf bag bal).other (r := w3.heap.size) (by omega) (.int .i64 0) (.int .i64 0)).alloc (.cells #[.int .i64 n, .int .i64 t, .int .i64 ky, .string rf, .int .i64 o, .int .i64 nw, .int .i64 SG] 23)).drew.below hb6 (by go_size)
  obtain ⟨bb0, bb1, bbf, bbg, bbl⟩ := (((Box2.mk bb0 bb1 bbf bbg bbl).set (.int .i64 0) (.int .i64 0)).alloc (.cells #[.int .i64 n, .int .i64 t, .int .i64 ky, .string rf, .int .i64 o, .int .i64 nw, .int .i64 SG] 23)).drew.below hb6 (by go_size)
  clear A0 A1 A2 A3 A4 A5 A6 Af0 Af1 Af2 Af3 Af4 Af5 Af6 Al
  replace AB := (((AB.far (a := ⟨w3.heap.size, 0, none⟩) (by show w3.heap.size ≠ _; omega) (.int .i64 0)).far (a := ⟨w3.heap.size, 1, none⟩) (by show w3.heap.size ≠ _; omega) (.int .i64 0)).alloc (.cells #[.int .i64 n, .int .i64 t, .int .i64 ky, .string rf, .int .i64 o, .int .i64 nw, .int .i64 SG] 23)).drew.below hb6 (by have h := AB.lt; go_size)
  have A0 := AB.c 0 _ rfl
  have A1 := AB.c 1 _ rfl
  have A2 := AB.c 2 _ rfl
  have A3 := AB.c 3 _ rfl
  have A4 := AB.c 4 _ rfl
  have A5 := AB.c 5 _ rfl
  have A6 := AB.c 6 _ rfl
  have Af0 := AB.f 0 (Nat.le_of_ble_eq_true rfl)
  have Af1 := AB.f 1 (Nat.le_of_ble_eq_true rfl)
  have Af2 := AB.f 2 (Nat.le_of_ble_eq_true rfl)
  have Af3 := AB.f 3 (Nat.le_of_ble_eq_true rfl)
  have Af4 := AB.f 4 (Nat.le_of_ble_eq_true rfl)
  have Af5 := AB.f 5 (Nat.le_of_ble_eq_true rfl)
  have Af6 := AB.f 6 (Nat.le_of_ble_eq_true rfl)
  have Al := AB.lt
  have VB := (Blk.new ((w5.setCell ⟨w3.heap.size, 0, none⟩ (.int .i64 0)).setCell ⟨w3.heap.size, 1, none⟩ (.int .i64 0)) [.int .i64 n, .int .i64 t, .int .i64 ky, .string rf, .int .i64 o, .int .i64 nw, .int .i64 SG] 23 (g := w5.heap.size) (by go_size)).drew.below hb6 (by go_size)
  have V0 := VB.c 0 _ rfl
  have V1 := VB.c 1 _ rfl
  have V2 := VB.c 2 _ rfl
  have V3 := VB.c 3 _ rfl
  have V4 := VB.c 4 _ rfl
  have V5 := VB.c 5 _ rfl
  have V6 := VB.c 6 _ rfl
  have Vf0 := VB.f 0 (Nat.le_of_ble_eq_true rfl)
  have Vf1 := VB.f 1 (Nat.le_of_ble_eq_true rfl)
  have Vf2 := VB.f 2 (Nat.le_of_ble_eq_true rfl)
  have Vf3 := VB.f 3 (Nat.le_of_ble_eq_true rfl)
  have Vf4 := VB.f 4 (Nat.le_of_ble_eq_true rfl)
  have Vf5 := VB.f 5 (Nat.le_of_ble_eq_true rfl)
  have Vf6 := VB.f 6 (Nat.le_of_ble_eq_true rfl)
  have Vl := VB.lt
  clear hb6
  try simp only [Act.put, List.setIfInBounds_toArray, List.set_cons_zero, List.set_cons_succ]
  repeat (refine wpI_rd rfl rfl ?_; go_big_quiet_step (fail); refine wpQuiet_nil ?_)
  refine wpI_nil ?_
  try simp only [Act.put, List.setIfInBounds_toArray, List.set_cons_zero, List.set_cons_succ]
  go_wp2_with fail
  refine (CertSignature_ok n t ky rf o nw s _ HBB.out h60).mono ?_
  rw [hSG.out]
  rintro e w7 ⟨rfl, hb7⟩
  have B7 : Below w.heap.size w w7 := bcall (by go_grown) hb7 (by go_size)
  have s7 := B7.size
  have q7 : w6.heap.size ≤ w7.heap.size := by have h := hb7.size; first | omega | (simp at h; omega)
  obtain ⟨ba0, ba1, baf, bag, bal⟩ := (Box2.mk ba0 ba1 baf bag bal).below hb7 (by go_size)
  obtain ⟨bb0, bb1, bbf, bbg, bbl⟩ := (Box2.mk bb0 bb1 bbf bbg bbl).below hb7 (by go_size)
  clear A0 A1 A2 A3 A4 A5 A6 Af0 Af1 Af2 Af3 Af4 Af5 Af6 Al
  replace AB := AB.below hb7 (by have h := AB.lt; go_size)
  have A0 := AB.c 0 _ rfl
  have A1 := AB.c 1 _ rfl
  have A2 := AB.c 2 _ rfl
  have A3 := AB.c 3 _ rfl
  have A4 := AB.c 4 _ rfl
  have A5 := AB.c 5 _ rfl
  have A6 := AB.c 6 _ rfl
  have Af0 := AB.f 0 (Nat.le_of_ble_eq_true rfl)
  have Af1 := AB.f 1 (Nat.le_of_ble_eq_true rfl)
  have Af2 := AB.f 2 (Nat.le_of_ble_eq_true rfl)
  have Af3 := AB.f 3 (Nat.le_of_ble_eq_true rfl)
  have Af4 := AB.f 4 (Nat.le_of_ble_eq_true rfl)
  have Af5 := AB.f 5 (Nat.le_of_ble_eq_true rfl)
  have Af6 := AB.f 6 (Nat.le_of_ble_eq_true rfl)
  have Al := AB.lt
  clear V0 V1 V2 V3 V4 V5 V6 Vf0 Vf1 Vf2 Vf3 Vf4 Vf5 Vf6 Vl
  replace VB := VB.below hb7 (by have h := VB.lt; go_size)
  have V0 := VB.c 0 _ rfl
  have V1 := VB.c 1 _ rfl
  have V2 := VB.c 2 _ rfl
  have V3 := VB.c 3 _ rfl
  have V4 := VB.c 4 _ rfl
  have V5 := VB.c 5 _ rfl
  have V6 := VB.c 6 _ rfl
  have Vf0 := VB.f 0 (Nat.le_of_ble_eq_true rfl)
  have Vf1 := VB.f 1 (Nat.le_of_ble_eq_true rfl)
  have Vf2 := VB.f 2 (Nat.le_of_ble_eq_true rfl)
  have Vf3 := VB.f 3 (Nat.le_of_ble_eq_true rfl)
  have Vf4 := VB.f 4 (Nat.le_of_ble_eq_true rfl)
  have Vf5 := VB.f 5 (Nat.le_of_ble_eq_true rfl)
  have Vf6 := VB.f 6 (Nat.le_of_ble_eq_true rfl)
  have Vl := VB.lt
  clear hb7
  go_wp2_with fail
  go_ret
  exact ⟨ret_true (by simp), by go_grown⟩
set_option maxRecDepth 100000 in
set_option maxHeartbeats 2000000 in
theorem PushcertMatchesSpec_obad (secret time n t ky : Int) (rf : ByteArray) (o nw s : Int) (w : World) (hk : Pl.isKeyB secret = true) (ht : Pl.inB time 0 100000 = true) (hF : (Pl.certF ⟨n, t, ky, rf, o, nw, s⟩).1 ≠ 0) : Calls Try.prog 3 #[.int .i64 secret, .int .i64 time, .agg (certCells ⟨n, t, ky, rf, o, nw, s⟩).toArray] w fun e w' => e = .returned (.bool true) ∧ Below w.heap.size w w' := by
  unfold certCells
  simp only
  have HN := Lib.hid (show Pl.nonceF secret time = (0, 0) by rw [Pl.nonceF, hk]; rw [show Pl.isTimeB time = true from ht]; rfl)
  have HV := Lib.hid (show Pl.nonceV secret time = Pl.nonceS secret time by rw [Pl.nonceV, HN.out]; rfl)
  obtain ⟨G, hG⟩ : ∃ G, Pl.certF ⟨n, t, ky, rf, o, nw, s⟩ = G := ⟨_, rfl⟩
  have HCV := Lib.hid (show Pl.certV ⟨n, t, ky, rf, o, nw, s⟩ = Pl.Cert.zero by rw [Pl.certV, if_neg hF])
  rw [hG] at hF
  have HF := Lib.hid hG
  have u1 : (G.1 == 0) = false := by simp [hF]
  have u2 : (G.1 != 0) = true := by simp [hF]
  clear hG hF
  obtain ⟨NS, hNS⟩ : ∃ x, Pl.nonceS secret time = x := ⟨_, rfl⟩
  rw [hNS] at HV
  replace hNS := Lib.hid hNS
  go_enter Try.func3, Try.ntmps3
  go_wp2_with fail
  refine (pushes_any _).mono ?_
  rintro e w1 ⟨rfl, hb1⟩
  have B1 : Below w.heap.size w w1 := bcall (by go_grown) hb1 (by go_size)
  have s1 := B1.size
  have q1 : w.heap.size + 1 ≤ w1.heap.size := by have h := hb1.size; first | omega | (simp at h; omega)
  have AB := (Blk.new w [.int .i64 n, .int .i64 t, .int .i64 ky, .string rf, .int .i64 o, .int .i64 nw, .int .i64 s] 23 (g := w.heap.size) (by go_size)).below hb1 (by go_size)
  have A0 := AB.c 0 _ rfl
  have A1 := AB.c 1 _ rfl
  have A2 := AB.c 2 _ rfl
  have A3 := AB.c 3 _ rfl
  have A4 := AB.c 4 _ rfl
  have A5 := AB.c 5 _ rfl
  have A6 := AB.c 6 _ rfl
  have Af0 := AB.f 0 (Nat.le_of_ble_eq_true rfl)
  have Af1 := AB.f 1 (Nat.le_of_ble_eq_true rfl)
  have Af2 := AB.f 2 (Nat.le_of_ble_eq_true rfl)
  have Af3 := AB.f 3 (Nat.le_of_ble_eq_true rfl)
  have Af4 := AB.f 4 (Nat.le_of_ble_eq_true rfl)
  have Af5 := AB.f 5 (Nat.le_of_ble_eq_true rfl)
  have Af6 := AB.f 6 (Nat.le_of_ble_eq_true rfl)
  have Al := AB.lt
  clear hb1
  go_wp2_with (first | (go_at_call 18; refine (lin_any _ _ _ _).mono ?_; rintro e w' ⟨rfl, rfl⟩) | (go_at_call 16; refine (rIsKey_any _ _).mono ?_; rintro e w' ⟨rfl, rfl⟩))
  refine (Nonce_any secret time _).mono ?_
  rw [HN.out, HV.out]
  rintro e w2 ⟨rfl, hb2⟩
  have B2 : Below w.heap.size w w2 := bcall (by go_grown) hb2 (by go_size)
  have s2 := B2.size
  have q2 : w1.heap.size + 1 ≤ w2.heap.size := by have h := hb2.size; first | omega | (simp at h; omega)
  obtain ⟨ba0, ba1, baf, bag, bal⟩ := (Box2.new w1 (.int .i64 0) (.int .i64 0) 26).below hb2 (by go_size)
  clear A0 A1 A2 A3 A4 A5 A6 Af0 Af1 Af2 Af3 Af4 Af5 Af6 Al
  replace AB := (AB.alloc (.cells #[(.int .i64 0), (.int .i64 0)] 26)).below hb2 (by have h := AB.lt; go_size)
  have A0 := AB.c 0 _ rfl
  have A1 := AB.c 1 _ rfl
  have A2 := AB.c 2 _ rfl
  have A3 := AB.c 3 _ rfl
  have A4 := AB.c 4 _ rfl
  have A5 := AB.c 5 _ rfl
  have A6 := AB.c 6 _ rfl
  have Af0 := AB.f 0 (Nat.le_of_ble_eq_true rfl)
  have Af1 := AB.f 1 (Nat.le_of_ble_eq_true rfl)
  have Af2 := AB.f 2 (Nat.le_of_ble_eq_true rfl)
  have Af3 := AB.f 3 (Nat.le_of_ble_eq_true rfl)
  have Af4 := AB.f 4 (Nat.le_of_ble_eq_true rfl)
  have Af5 := AB.f 5 (Nat.le_of_ble_eq_true rfl)
  have Af6 := AB.f 6 (Nat.le_of_ble_eq_true rfl)
  have Al := AB.lt
  clear hb2
  go_wp2_with fail
  refine (RNonce_ok secret time _ hk ht).mono ?_
  rw [hNS.out]
  rintro e w3 ⟨rfl, hb3⟩
  have B3 : Below w.heap.size w w3 := bcall (by go_grown) hb3 (by go_size)
  have s3 := B3.size
  have q3 : w2.heap.size + 1 ≤ w3.heap.size := by have h := hb3.size; first | omega | (simp at h; omega)
  obtain ⟨ba0, ba1, baf, bag, bal⟩ := ((Box2.mk ba0 ba1 baf bag bal).alloc (.cells #[(.int .i64 0), (.int .i64 0)] 26)).below hb3 (by go_size)
  obtain ⟨bb0, bb1, bbf, bbg, bbl⟩ := (Box2.new w2 (.int .i64 0) (.int .i64 0) 26).below hb3 (by go_size)
  clear A0 A1 A2 A3 A4 A5 A6 Af0 Af1 Af2 Af3 Af4 Af5 Af6 Al
  replace AB := (AB.alloc (.cells #[(.int .i64 0), (.int .i64 0)] 26)).below hb3 (by have h := AB.lt; go_size)
  have A0 := AB.c 0 _ rfl
  have A1 := AB.c 1 _ rfl
  have A2 := AB.c 2 _ rfl
  have A3 := AB.c 3 _ rfl
  have A4 := AB.c 4 _ rfl
  have A5 := AB.c 5 _ rfl
  have A6 := AB.c 6 _ rfl
  have Af0 := AB.f 0 (Nat.le_of_ble_eq_true rfl)
  have Af1 := AB.f 1 (Nat.le_of_ble_eq_true rfl)
  have Af2 := AB.f 2 (Nat.le_of_ble_eq_true rfl)
  have Af3 := AB.f 3 (Nat.le_of_ble_eq_true rfl)
  have Af4 := AB.f 4 (Nat.le_of_ble_eq_true rfl)
  have Af5 := AB.f 5 (Nat.le_of_ble_eq_true rfl)
  have Af6 := AB.f 6 (Nat.le_of_ble_eq_true rfl)
  have Al := AB.lt
  clear hb3
  go_wp2_with fail
  refine (CertFault_any ⟨n, t, ky, rf, o, nw, s⟩ _).mono ?_
  rw [HF.out]
  rintro e w4 ⟨rfl, hb4⟩
  have B4 : Below w.heap.size w w4 := bcall (by go_grown) hb4 (by go_size)
  have s4 := B4.size
  have q4 : w3.heap.size ≤ w4.heap.size := by have h := hb4.size; first | omega | (simp at h; omega)
  obtain ⟨ba0, ba1, baf, bag, bal⟩ := (Box2.mk ba0 ba1 baf bag bal).below hb4 (by go_size)
  obtain ⟨bb0, bb1, bbf, bbg, bbl⟩ := (Box2.mk bb0 bb1 bbf bbg bbl).below hb4 (by go_size)
  clear A0 A1 A2 A3 A4 A5 A6 Af0 Af1 Af2 Af3 Af4 Af5 Af6 Al
  replace AB := AB.below hb4 (by have h := AB.lt; go_size)
  have A0 := AB.c 0 _ rfl
  have A1 := AB.c 1 _ rfl
  have A2 := AB.c 2 _ rfl
  have A3 := AB.c 3 _ rfl
  have A4 := AB.c 4 _ rfl
  have A5 := AB.c 5 _ rfl
  have A6 := AB.c 6 _ rfl
  have Af0 := AB.f 0 (Nat.le_of_ble_eq_true rfl)
  have Af1 := AB.f 1 (Nat.le_of_ble_eq_true rfl)
  have Af2 := AB.f 2 (Nat.le_of_ble_eq_true rfl)
  have Af3 := AB.f 3 (Nat.le_of_ble_eq_true rfl)
  have Af4 := AB.f 4 (Nat.le_of_ble_eq_true rfl)
  have Af5 := AB.f 5 (Nat.le_of_ble_eq_true rfl)
  have Af6 := AB.f 6 (Nat.le_of_ble_eq_true rfl)
  have Al := AB.lt
  clear hb4
  go_wp2_with fail
  refine (Certify_any ⟨n, t, ky, rf, o, nw, s⟩ _).mono ?_
  rw [HF.out, HCV.out]
  rintro e w5 ⟨rfl, hb5⟩
  unfold certCells Pl.Cert.zero
  simp only
  have B5 : Below w.heap.size w w5 := bcall (by go_grown) hb5 (by go_size)
  have s5 := B5.size
  have q5 : w4.heap.size ≤ w5.heap.size := by have h := hb5.size; first | omega | (simp at h; omega)
  obtain ⟨ba0, ba1, baf, bag, bal⟩ := ((Box2.mk ba0 ba1 baf bag bal).set (.int .i64 G.1) (.int .i64 G.2)).below hb5 (by go_size)
  obtain ⟨bb0, bb1, bbf, bbg, bbl⟩ := ((Box2.mk bb0 bb1 bbf bbg bbl).other (r := w1.heap.size) (by omega) (.int .i64 G.1) (.int .i64 G.2)).below hb5 (by go_size)
  clear A0 A1 A2 A3 A4 A5 A6 Af0 Af1 Af2 Af3 Af4 Af5 Af6 Al
  replace AB := ((AB.far (a := ⟨w1.heap.size, 0, none⟩) (by show w1.heap.size ≠ _; omega) (.int .i64 G.1)).far (a := ⟨w1.heap.size, 1, none⟩) (by show w1.heap.size ≠ _; omega) (.int .i64 G.2)).below hb5 (by have h := AB.lt; go_size)
  have A0 := AB.c 0 _ rfl
  have A1 := AB.c 1 _ rfl
  have A2 := AB.c 2 _ rfl
  have A3 := AB.c 3 _ rfl
  have A4 := AB.c 4 _ rfl
  have A5 := AB.c 5 _ rfl
  have A6 := AB.c 6 _ rfl
  have Af0 := AB.f 0 (Nat.le_of_ble_eq_true rfl)
  have Af1 := AB.f 1 (Nat.le_of_ble_eq_true rfl)
  have Af2 := AB.f 2 (Nat.le_of_ble_eq_true rfl)
  have Af3 := AB.f 3 (Nat.le_of_ble_eq_true rfl)
  have Af4 := AB.f 4 (Nat.le_of_ble_eq_true rfl)
  have Af5 := AB.f 5 (Nat.le_of_ble_eq_true rfl)
  have Af6 := AB.f 6 (Nat.le_of_ble_eq_true rfl)
  have Al := AB.lt
  clear hb5
  go_wp2_with fail
  refine wp_region_ord [0, 2, 1, 3, 4, 5, 6, 7, 8, 9, 10, 11, 12, 13] (by kernel_rfl) (by kernel_rfl) ?_
  repeat (refine wpI_rd rfl rfl ?_; go_big_quiet_step (fail); refine wpQuiet_nil ?_)
  refine wpI_call (f := 23) (args := #[.agg #[.int .i64 n, .int .i64 t, .int .i64 ky, .string rf, .int .i64 o, .int .i64 nw, .int .i64 s]]) rfl rfl rfl (by simp [go_sem]) ?_
  refine (certValidate_any ⟨n, t, ky, rf, o, nw, s⟩ _).mono ?_
  rw [HF.out]
  rintro e w6 ⟨rfl, hb6⟩
  refine ⟨_, rfl, hb6, ?_⟩
  have B6 : Below w.heap.size w w6 := bcall (by go_grown) hb6 (by go_size)
  have s6 := B6.size
  have q6 : w5.heap.size + 1 ≤ w6.heap.size := by have h := hb6.size; first | omega | (simp at h; omega)
  obtain ⟨ba0, ba1, baf, bag, bal⟩ := (((Box2.mk ba0 ba1 baf bag bal).other (r := w2.heap.size) (by omega) (.int .i64 G.1) (.int .i64 G.2)).alloc (.cells #[.int .i64 0, .int .i64 0, .int .i64 0, .string ⟨#[]⟩, .int .i64 0, .int .i64 0, .int .i64 0] 23)).drew.below hb6 (by go_size)
  obtain ⟨bb0, bb1, bbf, bbg, bbl⟩ := (((Box2.mk bb0 bb1 bbf bbg bbl).set (.int .i64 G.1) (.int .i64 G.2)).alloc (.cells #[.int .i64 0, .int .i64 0, .int .i64 0, .string ⟨#[]⟩, .int .i64 0, .int .i64 0, .int .i64 0] 23)).drew.below hb6 (by go_size)
  clear A0 A1 A2 A3 A4 A5 A6 Af0 Af1 Af2 Af3 Af4 Af5 Af6 Al
  replace AB := (((AB.far (a := ⟨w2.heap.size, 0, none⟩) (by show w2.heap.size ≠ _; omega) (.int .i64 G.1)).far (a := ⟨w2.heap.size, 1, none⟩) (by show w2.heap.size ≠ _; omega) (.int .i64 G.2)).alloc (.cells #[.int .i64 0, .int .i64 0, .int .i64 0, .string ⟨#[]⟩, .int .i64 0, .int .i64 0, .int .i64 0] 23)).drew.below hb6 (by have h := AB.lt; go_size)
  have A0 := AB.c 0 _ rfl
  have A1 := AB.c 1 _ rfl
  have A2 := AB.c 2 _ rfl
  have A3 := AB.c 3 _ rfl
  have A4 := AB.c 4 _ rfl
  have A5 := AB.c 5 _ rfl
  have A6 := AB.c 6 _ rfl
  have Af0 := AB.f 0 (Nat.le_of_ble_eq_true rfl)
  have Af1 := AB.f 1 (Nat.le_of_ble_eq_true rfl)
  have Af2 := AB.f 2 (Nat.le_of_ble_eq_true rfl)
  have Af3 := AB.f 3 (Nat.le_of_ble_eq_true rfl)
  have Af4 := AB.f 4 (Nat.le_of_ble_eq_true rfl)
  have Af5 := AB.f 5 (Nat.le_of_ble_eq_true rfl)
  have Af6 := AB.f 6 (Nat.le_of_ble_eq_true rfl)
  have Al := AB.lt
  have VB := (Blk.new ((w5.setCell ⟨w2.heap.size, 0, none⟩ (.int .i64 G.1)).setCell ⟨w2.heap.size, 1, none⟩ (.int .i64 G.2)) [.int .i64 0, .int .i64 0, .int .i64 0, .string ⟨#[]⟩, .int .i64 0, .int .i64 0, .int .i64 0] 23 (g := w5.heap.size) (by go_size)).drew.below hb6 (by go_size)
  have V0 := VB.c 0 _ rfl
  have V1 := VB.c 1 _ rfl
  have V2 := VB.c 2 _ rfl
  have V3 := VB.c 3 _ rfl
  have V4 := VB.c 4 _ rfl
  have V5 := VB.c 5 _ rfl
  have V6 := VB.c 6 _ rfl
  have Vf0 := VB.f 0 (Nat.le_of_ble_eq_true rfl)
  have Vf1 := VB.f 1 (Nat.le_of_ble_eq_true rfl)
  have Vf2 := VB.f 2 (Nat.le_of_ble_eq_true rfl)
  have Vf3 := VB.f 3 (Nat.le_of_ble_eq_true rfl)
  have Vf4 := VB.f 4 (Nat.le_of_ble_eq_true rfl)
  have Vf5 := VB.f 5 (Nat.le_of_ble_eq_true rfl)
  have Vf6 := VB.f 6 (Nat.le_of_ble_eq_true rfl)
  have Vl := VB.lt
  clear hb6
  try simp only [Act.put, List.setIfInBounds_toArray, List.set_cons_zero, List.set_cons_succ]
  repeat (refine wpI_rd rfl rfl ?_; go_big_quiet_step (fail); refine wpQuiet_nil ?_)
  refine wpI_nil ?_
  try simp only [Act.put, List.setIfInBounds_toArray, List.set_cons_zero, List.set_cons_succ]
  go_wp2_with fail
  refine wp_region_ord [0, 2, 1, 3, 4, 5, 6, 7, 8, 9, 10, 11, 12, 13, 14] (by kernel_rfl) (by kernel_rfl) ?_
  repeat (refine wpI_rd rfl rfl ?_; go_big_quiet_step (fail); refine wpQuiet_nil ?_)
  refine wpI_call (f := 23) (args := #[.agg #[.int .i64 n, .int .i64 t, .int .i64 ky, .string rf, .int .i64 o, .int .i64 nw, .int .i64 s]]) rfl rfl rfl (by simp [go_sem]) ?_
  refine (certValidate_any ⟨n, t, ky, rf, o, nw, s⟩ _).mono ?_
  rw [HF.out]
  rintro e w7 ⟨rfl, hb7⟩
  refine ⟨_, rfl, hb7, ?_⟩
  have B7 : Below w.heap.size w w7 := bcall (by go_grown) hb7 (by go_size)
  have s7 := B7.size
  have q7 : w6.heap.size ≤ w7.heap.size := by have h := hb7.size; first | omega | (simp at h; omega)
  obtain ⟨ba0, ba1, baf, bag, bal⟩ := (Box2.mk ba0 ba1 baf bag bal).drew.below hb7 (by go_size)
  obtain ⟨bb0, bb1, bbf, bbg, bbl⟩ := (Box2.mk bb0 bb1 bbf bbg bbl).drew.below hb7 (by go_size)
  clear A0 A1 A2 A3 A4 A5 A6 Af0 Af1 Af2 Af3 Af4 Af5 Af6 Al
  replace AB := AB.drew.below hb7 (by have h := AB.lt; go_size)
  have A0 := AB.c 0 _ rfl
  have A1 := AB.c 1 _ rfl
  have A2 := AB.c 2 _ rfl
  have A3 := AB.c 3 _ rfl
  have A4 := AB.c 4 _ rfl
  have A5 := AB.c 5 _ rfl
  have A6 := AB.c 6 _ rfl
  have Af0 := AB.f 0 (Nat.le_of_ble_eq_true rfl)
  have Af1 := AB.f 1 (Nat.le_of_ble_eq_true rfl)
  have Af2 := AB.f 2 (Nat.le_of_ble_eq_true rfl)
  have Af3 := AB.f 3 (Nat.le_of_ble_eq_true rfl)
  have Af4 := AB.f 4 (Nat.le_of_ble_eq_true rfl)
  have Af5 := AB.f 5 (Nat.le_of_ble_eq_true rfl)
  have Af6 := AB.f 6 (Nat.le_of_ble_eq_true rfl)
  have Al := AB.lt
  clear V0 V1 V2 V3 V4 V5 V6 Vf0 Vf1 Vf2 Vf3 Vf4 Vf5 Vf6 Vl
  replace VB := VB.drew.below hb7 (by have h := VB.lt; go_size)
  have V0 := VB.c 0 _ rfl
  have V1 := VB.c 1 _ rfl
  have V2 := VB.c 2 _ rfl
  have V3 := VB.c 3 _ rfl
  have V4 := VB.c 4 _ rfl
  have V5 := VB.c 5 _ rfl
  have V6 := VB.c 6 _ rfl
  have Vf0 := VB.f 0 (Nat.le_of_ble_eq_true rfl)
  have Vf1 := VB.f 1 (Nat.le_of_ble_eq_true rfl)
  have Vf2 := VB.f 2 (Nat.le_of_ble_eq_true rfl)
  have Vf3 := VB.f 3 (Nat.le_of_ble_eq_true rfl)
  have Vf4 := VB.f 4 (Nat.le_of_ble_eq_true rfl)
  have Vf5 := VB.f 5 (Nat.le_of_ble_eq_true rfl)
  have Vf6 := VB.f 6 (Nat.le_of_ble_eq_true rfl)
  have Vl := VB.lt
  clear hb7
  try simp only [Act.put, List.setIfInBounds_toArray, List.set_cons_zero, List.set_cons_succ]
  repeat (refine wpI_rd rfl rfl ?_; go_big_quiet_step (fail); refine wpQuiet_nil ?_)
  refine wpI_nil ?_
  try simp only [Act.put, List.setIfInBounds_toArray, List.set_cons_zero, List.set_cons_succ]
  go_wp2_with fail
  go_ret
  exact ⟨ret_true (by simp), by go_grown⟩
set_option maxRecDepth 100000 in
set_option maxHeartbeats 2000000 in
theorem PushcertMatchesSpec_ook (secret time n t ky : Int) (rf : ByteArray) (o nw s : Int) (w : World) (hk : Pl.isKeyB secret = true) (ht : Pl.inB time 0 100000 = true) (hF : Pl.certF ⟨n, t, ky, rf, o, nw, s⟩ = (0, 0)) (hB : Pl.certB ⟨n, t, ky, rf, o, nw, s⟩ = true) (h60 : rf.size ≤ 60) : Calls Try.prog 3 #[.int .i64 secret, .int .i64 time, .agg (certCells ⟨n, t, ky, rf, o, nw, s⟩).toArray] w fun e w' => e = .returned (.bool true) ∧ Below w.heap.size w w' := by
  unfold certCells
  simp only
  have HN := Lib.hid (show Pl.nonceF secret time = (0, 0) by rw [Pl.nonceF, hk]; rw [show Pl.isTimeB time = true from ht]; rfl)
  have HV := Lib.hid (show Pl.nonceV secret time = Pl.nonceS secret time by rw [Pl.nonceV, HN.out]; rfl)
  have HF := Lib.hid hF
  have HBB := Lib.hid hB
  have HCV := Lib.hid (show Pl.certV ⟨n, t, ky, rf, o, nw, s⟩ = ⟨n, t, ky, rf, o, nw, Pl.certS ⟨n, t, ky, rf, o, nw, s⟩⟩ by rw [Pl.certV, if_pos (by rw [hF])]; rfl)
  obtain ⟨SG, hSG⟩ : ∃ x, Pl.certS ⟨n, t, ky, rf, o, nw, s⟩ = x := ⟨_, rfl⟩
  rw [hSG] at HCV
  replace hSG := Lib.hid hSG
  clear hF hB
  obtain ⟨NS, hNS⟩ : ∃ x, Pl.nonceS secret time = x := ⟨_, rfl⟩
  rw [hNS] at HV
  replace hNS := Lib.hid hNS
  go_enter Try.func3, Try.ntmps3
  go_wp2_with fail
  refine (pushes_any _).mono ?_
  rintro e w1 ⟨rfl, hb1⟩
  have B1 : Below w.heap.size w w1 := bcall (by go_grown) hb1 (by go_size)
  have s1 := B1.size
  have q1 : w.heap.size + 1 ≤ w1.heap.size := by have h := hb1.size; first | omega | (simp at h; omega)
  have AB := (Blk.new w [.int .i64 n, .int .i64 t, .int .i64 ky, .string rf, .int .i64 o, .int .i64 nw, .int .i64 s] 23 (g := w.heap.size) (by go_size)).below hb1 (by go_size)
  have A0 := AB.c 0 _ rfl
  have A1 := AB.c 1 _ rfl
  have A2 := AB.c 2 _ rfl
  have A3 := AB.c 3 _ rfl
  have A4 := AB.c 4 _ rfl
  have A5 := AB.c 5 _ rfl
  have A6 := AB.c 6 _ rfl
  have Af0 := AB.f 0 (Nat.le_of_ble_eq_true rfl)
  have Af1 := AB.f 1 (Nat.le_of_ble_eq_true rfl)
  have Af2 := AB.f 2 (Nat.le_of_ble_eq_true rfl)
  have Af3 := AB.f 3 (Nat.le_of_ble_eq_true rfl)
  have Af4 := AB.f 4 (Nat.le_of_ble_eq_true rfl)
  have Af5 := AB.f 5 (Nat.le_of_ble_eq_true rfl)
  have Af6 := AB.f 6 (Nat.le_of_ble_eq_true rfl)
  have Al := AB.lt
  clear hb1
  go_wp2_with (first | (go_at_call 18; refine (lin_any _ _ _ _).mono ?_; rintro e w' ⟨rfl, rfl⟩) | (go_at_call 16; refine (rIsKey_any _ _).mono ?_; rintro e w' ⟨rfl, rfl⟩))
  refine (Nonce_any secret time _).mono ?_
  rw [HN.out, HV.out]
  rintro e w2 ⟨rfl, hb2⟩
  have B2 : Below w.heap.size w w2 := bcall (by go_grown) hb2 (by go_size)
  have s2 := B2.size
  have q2 : w1.heap.size + 1 ≤ w2.heap.size := by have h := hb2.size; first | omega | (simp at h; omega)
  obtain ⟨ba0, ba1, baf, bag, bal⟩ := (Box2.new w1 (.int .i64 0) (.int .i64 0) 26).below hb2 (by go_size)
  clear A0 A1 A2 A3 A4 A5 A6 Af0 Af1 Af2 Af3 Af4 Af5 Af6 Al
  replace AB := (AB.alloc (.cells #[(.int .i64 0), (.int .i64 0)] 26)).below hb2 (by have h := AB.lt; go_size)
  have A0 := AB.c 0 _ rfl
  have A1 := AB.c 1 _ rfl
  have A2 := AB.c 2 _ rfl
  have A3 := AB.c 3 _ rfl
  have A4 := AB.c 4 _ rfl
  have A5 := AB.c 5 _ rfl
  have A6 := AB.c 6 _ rfl
  have Af0 := AB.f 0 (Nat.le_of_ble_eq_true rfl)
  have Af1 := AB.f 1 (Nat.le_of_ble_eq_true rfl)
  have Af2 := AB.f 2 (Nat.le_of_ble_eq_true rfl)
  have Af3 := AB.f 3 (Nat.le_of_ble_eq_true rfl)
  have Af4 := AB.f 4 (Nat.le_of_ble_eq_true rfl)
  have Af5 := AB.f 5 (Nat.le_of_ble_eq_true rfl)
  have Af6 := AB.f 6 (Nat.le_of_ble_eq_true rfl)
  have Al := AB.lt
  clear hb2
  go_wp2_with fail
  refine (RNonce_ok secret time _ hk ht).mono ?_
  rw [hNS.out]
  rintro e w3 ⟨rfl, hb3⟩
  have B3 : Below w.heap.size w w3 := bcall (by go_grown) hb3 (by go_size)
  have s3 := B3.size
  have q3 : w2.heap.size + 1 ≤ w3.heap.size := by have h := hb3.size; first | omega | (simp at h; omega)
  obtain ⟨ba0, ba1, baf, bag, bal⟩ := ((Box2.mk ba0 ba1 baf bag bal).alloc (.cells #[(.int .i64 0), (.int .i64 0)] 26)).below hb3 (by go_size)
  obtain ⟨bb0, bb1, bbf, bbg, bbl⟩ := (Box2.new w2 (.int .i64 0) (.int .i64 0) 26).below hb3 (by go_size)
  clear A0 A1 A2 A3 A4 A5 A6 Af0 Af1 Af2 Af3 Af4 Af5 Af6 Al
  replace AB := (AB.alloc (.cells #[(.int .i64 0), (.int .i64 0)] 26)).below hb3 (by have h := AB.lt; go_size)
  have A0 := AB.c 0 _ rfl
  have A1 := AB.c 1 _ rfl
  have A2 := AB.c 2 _ rfl
  have A3 := AB.c 3 _ rfl
  have A4 := AB.c 4 _ rfl
  have A5 := AB.c 5 _ rfl
  have A6 := AB.c 6 _ rfl
  have Af0 := AB.f 0 (Nat.le_of_ble_eq_true rfl)
  have Af1 := AB.f 1 (Nat.le_of_ble_eq_true rfl)
  have Af2 := AB.f 2 (Nat.le_of_ble_eq_true rfl)
  have Af3 := AB.f 3 (Nat.le_of_ble_eq_true rfl)
  have Af4 := AB.f 4 (Nat.le_of_ble_eq_true rfl)
  have Af5 := AB.f 5 (Nat.le_of_ble_eq_true rfl)
  have Af6 := AB.f 6 (Nat.le_of_ble_eq_true rfl)
  have Al := AB.lt
  clear hb3
  go_wp2_with fail
  refine (CertFault_any ⟨n, t, ky, rf, o, nw, s⟩ _).mono ?_
  rw [HF.out]
  rintro e w4 ⟨rfl, hb4⟩
  have B4 : Below w.heap.size w w4 := bcall (by go_grown) hb4 (by go_size)
  have s4 := B4.size
  have q4 : w3.heap.size ≤ w4.heap.size := by have h := hb4.size; first | omega | (simp at h; omega)
  obtain ⟨ba0, ba1, baf, bag, bal⟩ := (Box2.mk ba0 ba1 baf bag bal).below hb4 (by go_size)
  obtain ⟨bb0, bb1, bbf, bbg, bbl⟩ := (Box2.mk bb0 bb1 bbf bbg bbl).below hb4 (by go_size)
  clear A0 A1 A2 A3 A4 A5 A6 Af0 Af1 Af2 Af3 Af4 Af5 Af6 Al
  replace AB := AB.below hb4 (by have h := AB.lt; go_size)
  have A0 := AB.c 0 _ rfl
  have A1 := AB.c 1 _ rfl
  have A2 := AB.c 2 _ rfl
  have A3 := AB.c 3 _ rfl
  have A4 := AB.c 4 _ rfl
  have A5 := AB.c 5 _ rfl
  have A6 := AB.c 6 _ rfl
  have Af0 := AB.f 0 (Nat.le_of_ble_eq_true rfl)
  have Af1 := AB.f 1 (Nat.le_of_ble_eq_true rfl)
  have Af2 := AB.f 2 (Nat.le_of_ble_eq_true rfl)
  have Af3 := AB.f 3 (Nat.le_of_ble_eq_true rfl)
  have Af4 := AB.f 4 (Nat.le_of_ble_eq_true rfl)
  have Af5 := AB.f 5 (Nat.le_of_ble_eq_true rfl)
  have Af6 := AB.f 6 (Nat.le_of_ble_eq_true rfl)
  have Al := AB.lt
  clear hb4
  go_wp2_with fail
  refine (Certify_any ⟨n, t, ky, rf, o, nw, s⟩ _).mono ?_
  rw [HF.out, HCV.out]
  rintro e w5 ⟨rfl, hb5⟩
  unfold certCells
  simp only
  have B5 : Below w.heap.size w w5 := bcall (by go_grown) hb5 (by go_size)
  have s5 := B5.size
  have q5 : w4.heap.size ≤ w5.heap.size := by have h := hb5.size; first | omega | (simp at h; omega)
  obtain ⟨ba0, ba1, baf, bag, bal⟩ := ((Box2.mk ba0 ba1 baf bag bal).set (.int .i64 0) (.int .i64 0)).below hb5 (by go_size)
  obtain ⟨bb0, bb1, bbf, bbg, bbl⟩ := ((Box2.mk bb0 bb1 bbf bbg bbl).other (r := w1.heap.size) (by omega) (.int .i64 0) (.int .i64 0)).below hb5 (by go_size)
  clear A0 A1 A2 A3 A4 A5 A6 Af0 Af1 Af2 Af3 Af4 Af5 Af6 Al
  replace AB := ((AB.far (a := ⟨w1.heap.size, 0, none⟩) (by show w1.heap.size ≠ _; omega) (.int .i64 0)).far (a := ⟨w1.heap.size, 1, none⟩) (by show w1.heap.size ≠ _; omega) (.int .i64 0)).below hb5 (by have h := AB.lt; go_size)
  have A0 := AB.c 0 _ rfl
  have A1 := AB.c 1 _ rfl
  have A2 := AB.c 2 _ rfl
  have A3 := AB.c 3 _ rfl
  have A4 := AB.c 4 _ rfl
  have A5 := AB.c 5 _ rfl
  have A6 := AB.c 6 _ rfl
  have Af0 := AB.f 0 (Nat.le_of_ble_eq_true rfl)
  have Af1 := AB.f 1 (Nat.le_of_ble_eq_true rfl)
  have Af2 := AB.f 2 (Nat.le_of_ble_eq_true rfl)
  have Af3 := AB.f 3 (Nat.le_of_ble_eq_true rfl)
  have Af4 := AB.f 4 (Nat.le_of_ble_eq_true rfl)
  have Af5 := AB.f 5 (Nat.le_of_ble_eq_true rfl)
  have Af6 := AB.f 6 (Nat.le_of_ble_eq_true rfl)
  have Al := AB.lt
  clear hb5
  go_wp2_with fail
  refine wp_region_ord [0, 2, 1, 3, 4, 5, 6, 7, 8, 9, 10, 11, 12, 13] (by kernel_rfl) (by kernel_rfl) ?_
  repeat (refine wpI_rd rfl rfl ?_; go_big_quiet_step (fail); refine wpQuiet_nil ?_)
  refine wpI_call (f := 23) (args := #[.agg #[.int .i64 n, .int .i64 t, .int .i64 ky, .string rf, .int .i64 o, .int .i64 nw, .int .i64 s]]) rfl rfl rfl (by simp [go_sem]) ?_
  refine (certValidate_any ⟨n, t, ky, rf, o, nw, s⟩ _).mono ?_
  rw [HF.out]
  rintro e w6 ⟨rfl, hb6⟩
  refine ⟨_, rfl, hb6, ?_⟩
  have B6 : Below w.heap.size w w6 := bcall (by go_grown) hb6 (by go_size)
  have s6 := B6.size
  have q6 : w5.heap.size + 1 ≤ w6.heap.size := by have h := hb6.size; first | omega | (simp at h; omega)
  obtain ⟨ba0, ba1, baf, bag, bal⟩ := (((Box2.mk ba0 ba1 baf bag bal).other (r := w2.heap.size) (by omega) (.int .i64 0) (.int .i64 0)).alloc (.cells #[.int .i64 n, .int .i64 t, .int .i64 ky, .string rf, .int .i64 o, .int .i64 nw, .int .i64 SG] 23)).drew.below hb6 (by go_size)
  obtain ⟨bb0, bb1, bbf, bbg, bbl⟩ := (((Box2.mk bb0 bb1 bbf bbg bbl).set (.int .i64 0) (.int .i64 0)).alloc (.cells #[.int .i64 n, .int .i64 t, .int .i64 ky, .string rf, .int .i64 o, .int .i64 nw, .int .i64 SG] 23)).drew.below hb6 (by go_size)
  clear A0 A1 A2 A3 A4 A5 A6 Af0 Af1 Af2 Af3 Af4 Af5 Af6 Al
  replace AB := (((AB.far (a := ⟨w2.heap.size, 0, none⟩) (by show w2.heap.size ≠ _; omega) (.int .i64 0)).far (a := ⟨w2.heap.size, 1, none⟩) (by show w2.heap.size ≠ _; omega) (.int .i64 0)).alloc (.cells #[.int .i64 n, .int .i64 t, .int .i64 ky, .string rf, .int .i64 o, .int .i64 nw, .int .i64 SG] 23)).drew.below hb6 (by have h := AB.lt; go_size)
  have A0 := AB.c 0 _ rfl
  have A1 := AB.c 1 _ rfl
  have A2 := AB.c 2 _ rfl
  have A3 := AB.c 3 _ rfl
  have A4 := AB.c 4 _ rfl
  have A5 := AB.c 5 _ rfl
  have A6 := AB.c 6 _ rfl
  have Af0 := AB.f 0 (Nat.le_of_ble_eq_true rfl)
  have Af1 := AB.f 1 (Nat.le_of_ble_eq_true rfl)
  have Af2 := AB.f 2 (Nat.le_of_ble_eq_true rfl)
  have Af3 := AB.f 3 (Nat.le_of_ble_eq_true rfl)
  have Af4 := AB.f 4 (Nat.le_of_ble_eq_true rfl)
  have Af5 := AB.f 5 (Nat.le_of_ble_eq_true rfl)
  have Af6 := AB.f 6 (Nat.le_of_ble_eq_true rfl)
  have Al := AB.lt
  have VB := (Blk.new ((w5.setCell ⟨w2.heap.size, 0, none⟩ (.int .i64 0)).setCell ⟨w2.heap.size, 1, none⟩ (.int .i64 0)) [.int .i64 n, .int .i64 t, .int .i64 ky, .string rf, .int .i64 o, .int .i64 nw, .int .i64 SG] 23 (g := w5.heap.size) (by go_size)).drew.below hb6 (by go_size)
  have V0 := VB.c 0 _ rfl
  have V1 := VB.c 1 _ rfl
  have V2 := VB.c 2 _ rfl
  have V3 := VB.c 3 _ rfl
  have V4 := VB.c 4 _ rfl
  have V5 := VB.c 5 _ rfl
  have V6 := VB.c 6 _ rfl
  have Vf0 := VB.f 0 (Nat.le_of_ble_eq_true rfl)
  have Vf1 := VB.f 1 (Nat.le_of_ble_eq_true rfl)
  have Vf2 := VB.f 2 (Nat.le_of_ble_eq_true rfl)
  have Vf3 := VB.f 3 (Nat.le_of_ble_eq_true rfl)
  have Vf4 := VB.f 4 (Nat.le_of_ble_eq_true rfl)
  have Vf5 := VB.f 5 (Nat.le_of_ble_eq_true rfl)
  have Vf6 := VB.f 6 (Nat.le_of_ble_eq_true rfl)
  have Vl := VB.lt
  clear hb6
  try simp only [Act.put, List.setIfInBounds_toArray, List.set_cons_zero, List.set_cons_succ]
  repeat (refine wpI_rd rfl rfl ?_; go_big_quiet_step (fail); refine wpQuiet_nil ?_)
  refine wpI_nil ?_
  try simp only [Act.put, List.setIfInBounds_toArray, List.set_cons_zero, List.set_cons_succ]
  go_wp2_with fail
  refine (CertSignature_ok n t ky rf o nw s _ HBB.out h60).mono ?_
  rw [hSG.out]
  rintro e w7 ⟨rfl, hb7⟩
  have B7 : Below w.heap.size w w7 := bcall (by go_grown) hb7 (by go_size)
  have s7 := B7.size
  have q7 : w6.heap.size ≤ w7.heap.size := by have h := hb7.size; first | omega | (simp at h; omega)
  obtain ⟨ba0, ba1, baf, bag, bal⟩ := (Box2.mk ba0 ba1 baf bag bal).below hb7 (by go_size)
  obtain ⟨bb0, bb1, bbf, bbg, bbl⟩ := (Box2.mk bb0 bb1 bbf bbg bbl).below hb7 (by go_size)
  clear A0 A1 A2 A3 A4 A5 A6 Af0 Af1 Af2 Af3 Af4 Af5 Af6 Al
  replace AB := AB.below hb7 (by have h := AB.lt; go_size)
  have A0 := AB.c 0 _ rfl
  have A1 := AB.c 1 _ rfl
  have A2 := AB.c 2 _ rfl
  have A3 := AB.c 3 _ rfl
  have A4 := AB.c 4 _ rfl
  have A5 := AB.c 5 _ rfl
  have A6 := AB.c 6 _ rfl
  have Af0 := AB.f 0 (Nat.le_of_ble_eq_true rfl)
  have Af1 := AB.f 1 (Nat.le_of_ble_eq_true rfl)
  have Af2 := AB.f 2 (Nat.le_of_ble_eq_true rfl)
  have Af3 := AB.f 3 (Nat.le_of_ble_eq_true rfl)
  have Af4 := AB.f 4 (Nat.le_of_ble_eq_true rfl)
  have Af5 := AB.f 5 (Nat.le_of_ble_eq_true rfl)
  have Af6 := AB.f 6 (Nat.le_of_ble_eq_true rfl)
  have Al := AB.lt
  clear V0 V1 V2 V3 V4 V5 V6 Vf0 Vf1 Vf2 Vf3 Vf4 Vf5 Vf6 Vl
  replace VB := VB.below hb7 (by have h := VB.lt; go_size)
  have V0 := VB.c 0 _ rfl
  have V1 := VB.c 1 _ rfl
  have V2 := VB.c 2 _ rfl
  have V3 := VB.c 3 _ rfl
  have V4 := VB.c 4 _ rfl
  have V5 := VB.c 5 _ rfl
  have V6 := VB.c 6 _ rfl
  have Vf0 := VB.f 0 (Nat.le_of_ble_eq_true rfl)
  have Vf1 := VB.f 1 (Nat.le_of_ble_eq_true rfl)
  have Vf2 := VB.f 2 (Nat.le_of_ble_eq_true rfl)
  have Vf3 := VB.f 3 (Nat.le_of_ble_eq_true rfl)
  have Vf4 := VB.f 4 (Nat.le_of_ble_eq_true rfl)
  have Vf5 := VB.f 5 (Nat.le_of_ble_eq_true rfl)
  have Vf6 := VB.f 6 (Nat.le_of_ble_eq_true rfl)
  have Vl := VB.lt
  clear hb7
  go_wp2_with fail
  go_ret
  exact ⟨ret_true (by simp), by go_grown⟩
theorem PushcertMatchesSpec_main (secret time : Int) (c : Pl.Cert) (w : World) : Calls Try.prog 3 #[.int .i64 secret, .int .i64 time, .agg (certCells c).toArray] w fun e w' => e = .returned (.bool true) ∧ Below w.heap.size w w' := by
  obtain ⟨n, t, ky, rf, o, nw, s⟩ := c
  rcases Pl.certF_cases ⟨n, t, ky, rf, o, nw, s⟩ with ⟨hF, hB, _, h60⟩ | hF
  · cases hk : Pl.isKeyB secret with
    | false => exact PushcertMatchesSpec_kok secret time n t ky rf o nw s w hk hF hB h60
    | true =>
      cases ht : Pl.inB time 0 100000 with
      | false => exact PushcertMatchesSpec_tok secret time n t ky rf o nw s w hk ht hF hB h60
      | true => exact PushcertMatchesSpec_ook secret time n t ky rf o nw s w hk ht hF hB h60
  · cases hk : Pl.isKeyB secret with
    | false => exact PushcertMatchesSpec_kbad secret time n t ky rf o nw s w hk hF
    | true =>
      cases ht : Pl.inB time 0 100000 with
      | false => exact PushcertMatchesSpec_tbad secret time n t ky rf o nw s w hk ht hF
      | true => exact PushcertMatchesSpec_obad secret time n t ky rf o nw s w hk ht hF
end Go.Proofs.Ytkhkijpkgogncaa
