/- The law PushcertTimesAreSigned returns true. -/
import Derived.Test.YtkhkijpkgogncaaUo
namespace Go.Proofs.Ytkhkijpkgogncaa
open Go.RowKit

set_option maxRecDepth 100000 in
set_option maxHeartbeats 2000000 in
theorem PushcertTimesAreSigned_bad (n t ky : Int) (rf : ByteArray) (o nw s time : Int) (w : World) (hF : (Pl.certF ⟨n, t, ky, rf, o, nw, s⟩).1 ≠ 0) : Calls Try.prog 7 #[.agg (certCells ⟨n, t, ky, rf, o, nw, s⟩).toArray, .int .i64 time] w fun e w' => e = .returned (.bool true) ∧ Below w.heap.size w w' := by
  unfold certCells
  simp only
  obtain ⟨G, hgF⟩ : ∃ G, Pl.certF ⟨n, t, ky, rf, o, nw, s⟩ = G := ⟨_, rfl⟩
  have HV := Lib.hid (show Pl.certV ⟨n, t, ky, rf, o, nw, s⟩ = Pl.Cert.zero by rw [Pl.certV, if_neg hF])
  rw [hgF] at hF
  have uF1 : (G.1 == 0) = false := by simp [hF]
  have uF2 : (G.1 != 0) = true := by simp [hF]
  clear hF
  have hF := Lib.hid hgF
  clear hgF
  
  obtain ⟨J, hJ⟩ : ∃ G, Pl.certF ⟨n, time, ky, rf, o, nw, s⟩ = G := ⟨_, rfl⟩
  obtain ⟨⟨vn, vt, vk, vr, vo, vw, vs⟩, hV⟩ : ∃ V, Pl.certV ⟨n, time, ky, rf, o, nw, s⟩ = V := ⟨_, rfl⟩
  have hE := Lib.hid hJ
  have HW := Lib.hid hV
  clear hJ hV
  go_enter Try.func7, Try.ntmps7
  go_wp2_with fail
  refine (pushes_any _).mono ?_
  rintro e w1 ⟨rfl, hb1⟩
  have B1 : Below w.heap.size w w1 := bcall (by go_grown) hb1 (by go_size)
  have s1 := B1.size
  have q1 : w.heap.size + 1 ≤ w1.heap.size := by have h := hb1.size; first | omega | (simp at h; omega)
  have AB := (Blk.new w [.int .i64 n, .int .i64 t, .int .i64 ky, .string rf, .int .i64 o, .int .i64 nw, .int .i64 s] 23 (g := w.heap.size) (by go_size)).below hb1 (by go_size)
  have A0 := AB.c 0 _ rfl
  have A1 := AB.c 1 _ rfl
  have A2 := AB.c 2 _ rfl
  have A3 := AB.c 3 _ rfl
  have A4 := AB.c 4 _ rfl
  have A5 := AB.c 5 _ rfl
  have A6 := AB.c 6 _ rfl
  have Af0 := AB.f 0 (Nat.le_of_ble_eq_true rfl)
  have Af1 := AB.f 1 (Nat.le_of_ble_eq_true rfl)
  have Af2 := AB.f 2 (Nat.le_of_ble_eq_true rfl)
  have Af3 := AB.f 3 (Nat.le_of_ble_eq_true rfl)
  have Af4 := AB.f 4 (Nat.le_of_ble_eq_true rfl)
  have Af5 := AB.f 5 (Nat.le_of_ble_eq_true rfl)
  have Af6 := AB.f 6 (Nat.le_of_ble_eq_true rfl)
  have Al := AB.lt
  clear hb1
  go_wp2_with fail
  refine (Certify_any ⟨n, t, ky, rf, o, nw, s⟩ _).mono ?_
  rw [hF.out, HV.out]
  rintro e w2 ⟨rfl, hb2⟩
  unfold certCells Pl.Cert.zero
  simp only
  have B2 : Below w.heap.size w w2 := bcall (by go_grown) hb2 (by go_size)
  have s2 := B2.size
  have q2 : w1.heap.size + 1 ≤ w2.heap.size := by have h := hb2.size; first | omega | (simp at h; omega)
  clear A0 A1 A2 A3 A4 A5 A6 Af0 Af1 Af2 Af3 Af4 Af5 Af6 Al
  replace AB := (AB.alloc (.cells #[.int .i64 n, .int .i64 time, .int .i64 ky, .string rf, .int .i64 o, .int .i64 nw, .int .i64 s] 23)).below hb2 (by have h := AB.lt; go_size)
  have A0 := AB.c 0 _ rfl
  have A1 := AB.c 1 _ rfl
  have A2 := AB.c 2 _ rfl
  have A3 := AB.c 3 _ rfl
  have A4 := AB.c 4 _ rfl
  have A5 := AB.c 5 _ rfl
  have A6 := AB.c 6 _ rfl
  have Af0 := AB.f 0 (Nat.le_of_ble_eq_true rfl)
  have Af1 := AB.f 1 (Nat.le_of_ble_eq_true rfl)
  have Af2 := AB.f 2 (Nat.le_of_ble_eq_true rfl)
  have Af3 := AB.f 3 (Nat.le_of_ble_eq_true rfl)
  have Af4 := AB.f 4 (Nat.le_of_ble_eq_true rfl)
  have Af5 := AB.f 5 (Nat.le_of_ble_eq_true rfl)
  have Af6 := AB.f 6 (Nat.le_of_ble_eq_true rfl)
  have Al := AB.lt
  have DB := (Blk.new w1 [.int .i64 n, .int .i64 time, .int .i64 ky, .string rf, .int .i64 o, .int .i64 nw, .int .i64 s] 23 (g := w1.heap.size) (by go_size)).below hb2 (by go_size)
  have D0 := DB.c 0 _ rfl
  have D1 := DB.c 1 _ rfl
  have D2 := DB.c 2 _ rfl
  have D3 := DB.c 3 _ rfl
  have D4 := DB.c 4 _ rfl
  have D5 := DB.c 5 _ rfl
  have D6 := DB.c 6 _ rfl
  have Df0 := DB.f 0 (Nat.le_of_ble_eq_true rfl)
  have Df1 := DB.f 1 (Nat.le_of_ble_eq_true rfl)
  have Df2 := DB.f 2 (Nat.le_of_ble_eq_true rfl)
  have Df3 := DB.f 3 (Nat.le_of_ble_eq_true rfl)
  have Df4 := DB.f 4 (Nat.le_of_ble_eq_true rfl)
  have Df5 := DB.f 5 (Nat.le_of_ble_eq_true rfl)
  have Df6 := DB.f 6 (Nat.le_of_ble_eq_true rfl)
  have Dl := DB.lt
  clear hb2
  go_wp2_with fail
  refine (Certify_any ⟨n, time, ky, rf, o, nw, s⟩ _).mono ?_
  rw [hE.out, HW.out]
  rintro e w3 ⟨rfl, hb3⟩
  unfold certCells
  simp only
  have B3 : Below w.heap.size w w3 := bcall (by go_grown) hb3 (by go_size)
  have s3 := B3.size
  have q3 : w2.heap.size + 2 ≤ w3.heap.size := by have h := hb3.size; first | omega | (simp at h; omega)
  have bah := (Box2.new (w2.alloc (.cells #[.int .i64 0, .int .i64 0, .int .i64 0, .string ⟨#[]⟩, .int .i64 0, .int .i64 0, .int .i64 0] 23)) (.int .i64 G.1) (.int .i64 G.2) 26).below hb3 (by go_size)
  simp only [World.size_alloc] at bah
  obtain ⟨ba0, ba1, baf, bag, bal⟩ := bah
  clear A0 A1 A2 A3 A4 A5 A6 Af0 Af1 Af2 Af3 Af4 Af5 Af6 Al
  replace AB := ((AB.alloc (.cells #[.int .i64 0, .int .i64 0, .int .i64 0, .string ⟨#[]⟩, .int .i64 0, .int .i64 0, .int .i64 0] 23)).alloc (.cells #[(.int .i64 G.1), (.int .i64 G.2)] 26)).below hb3 (by have h := AB.lt; go_size)
  have A0 := AB.c 0 _ rfl
  have A1 := AB.c 1 _ rfl
  have A2 := AB.c 2 _ rfl
  have A3 := AB.c 3 _ rfl
  have A4 := AB.c 4 _ rfl
  have A5 := AB.c 5 _ rfl
  have A6 := AB.c 6 _ rfl
  have Af0 := AB.f 0 (Nat.le_of_ble_eq_true rfl)
  have Af1 := AB.f 1 (Nat.le_of_ble_eq_true rfl)
  have Af2 := AB.f 2 (Nat.le_of_ble_eq_true rfl)
  have Af3 := AB.f 3 (Nat.le_of_ble_eq_true rfl)
  have Af4 := AB.f 4 (Nat.le_of_ble_eq_true rfl)
  have Af5 := AB.f 5 (Nat.le_of_ble_eq_true rfl)
  have Af6 := AB.f 6 (Nat.le_of_ble_eq_true rfl)
  have Al := AB.lt
  clear D0 D1 D2 D3 D4 D5 D6 Df0 Df1 Df2 Df3 Df4 Df5 Df6 Dl
  replace DB := ((DB.alloc (.cells #[.int .i64 0, .int .i64 0, .int .i64 0, .string ⟨#[]⟩, .int .i64 0, .int .i64 0, .int .i64 0] 23)).alloc (.cells #[(.int .i64 G.1), (.int .i64 G.2)] 26)).below hb3 (by have h := DB.lt; go_size)
  have D0 := DB.c 0 _ rfl
  have D1 := DB.c 1 _ rfl
  have D2 := DB.c 2 _ rfl
  have D3 := DB.c 3 _ rfl
  have D4 := DB.c 4 _ rfl
  have D5 := DB.c 5 _ rfl
  have D6 := DB.c 6 _ rfl
  have Df0 := DB.f 0 (Nat.le_of_ble_eq_true rfl)
  have Df1 := DB.f 1 (Nat.le_of_ble_eq_true rfl)
  have Df2 := DB.f 2 (Nat.le_of_ble_eq_true rfl)
  have Df3 := DB.f 3 (Nat.le_of_ble_eq_true rfl)
  have Df4 := DB.f 4 (Nat.le_of_ble_eq_true rfl)
  have Df5 := DB.f 5 (Nat.le_of_ble_eq_true rfl)
  have Df6 := DB.f 6 (Nat.le_of_ble_eq_true rfl)
  have Dl := DB.lt
  have VB := ((Blk.new w2 [.int .i64 0, .int .i64 0, .int .i64 0, .string ⟨#[]⟩, .int .i64 0, .int .i64 0, .int .i64 0] 23 (g := w2.heap.size) (by go_size)).alloc (.cells #[(.int .i64 G.1), (.int .i64 G.2)] 26)).below hb3 (by go_size)
  have V0 := VB.c 0 _ rfl
  have V1 := VB.c 1 _ rfl
  have V2 := VB.c 2 _ rfl
  have V3 := VB.c 3 _ rfl
  have V4 := VB.c 4 _ rfl
  have V5 := VB.c 5 _ rfl
  have V6 := VB.c 6 _ rfl
  have Vf0 := VB.f 0 (Nat.le_of_ble_eq_true rfl)
  have Vf1 := VB.f 1 (Nat.le_of_ble_eq_true rfl)
  have Vf2 := VB.f 2 (Nat.le_of_ble_eq_true rfl)
  have Vf3 := VB.f 3 (Nat.le_of_ble_eq_true rfl)
  have Vf4 := VB.f 4 (Nat.le_of_ble_eq_true rfl)
  have Vf5 := VB.f 5 (Nat.le_of_ble_eq_true rfl)
  have Vf6 := VB.f 6 (Nat.le_of_ble_eq_true rfl)
  have Vl := VB.lt
  clear hb3
  go_wp2_with fail
  refine (CertFault_any ⟨n, t, ky, rf, o, nw, s⟩ _).mono ?_
  rw [hF.out]
  rintro e w4 ⟨rfl, hb4⟩
  have B4 : Below w.heap.size w w4 := bcall (by go_grown) hb4 (by go_size)
  have s4 := B4.size
  have q4 : w3.heap.size + 2 ≤ w4.heap.size := by have h := hb4.size; first | omega | (simp at h; omega)
  obtain ⟨ba0, ba1, baf, bag, bal⟩ := (((Box2.mk ba0 ba1 baf bag bal).alloc (.cells #[.int .i64 vn, .int .i64 vt, .int .i64 vk, .string vr, .int .i64 vo, .int .i64 vw, .int .i64 vs] 23)).alloc (.cells #[(.int .i64 J.1), (.int .i64 J.2)] 26)).below hb4 (by go_size)
  have bbh := (Box2.new (w3.alloc (.cells #[.int .i64 vn, .int .i64 vt, .int .i64 vk, .string vr, .int .i64 vo, .int .i64 vw, .int .i64 vs] 23)) (.int .i64 J.1) (.int .i64 J.2) 26).below hb4 (by go_size)
  simp only [World.size_alloc] at bbh
  obtain ⟨bb0, bb1, bbf, bbg, bbl⟩ := bbh
  clear A0 A1 A2 A3 A4 A5 A6 Af0 Af1 Af2 Af3 Af4 Af5 Af6 Al
  replace AB := ((AB.alloc (.cells #[.int .i64 vn, .int .i64 vt, .int .i64 vk, .string vr, .int .i64 vo, .int .i64 vw, .int .i64 vs] 23)).alloc (.cells #[(.int .i64 J.1), (.int .i64 J.2)] 26)).below hb4 (by have h := AB.lt; go_size)
  have A0 := AB.c 0 _ rfl
  have A1 := AB.c 1 _ rfl
  have A2 := AB.c 2 _ rfl
  have A3 := AB.c 3 _ rfl
  have A4 := AB.c 4 _ rfl
  have A5 := AB.c 5 _ rfl
  have A6 := AB.c 6 _ rfl
  have Af0 := AB.f 0 (Nat.le_of_ble_eq_true rfl)
  have Af1 := AB.f 1 (Nat.le_of_ble_eq_true rfl)
  have Af2 := AB.f 2 (Nat.le_of_ble_eq_true rfl)
  have Af3 := AB.f 3 (Nat.le_of_ble_eq_true rfl)
  have Af4 := AB.f 4 (Nat.le_of_ble_eq_true rfl)
  have Af5 := AB.f 5 (Nat.le_of_ble_eq_true rfl)
  have Af6 := AB.f 6 (Nat.le_of_ble_eq_true rfl)
  have Al := AB.lt
  clear D0 D1 D2 D3 D4 D5 D6 Df0 Df1 Df2 Df3 Df4 Df5 Df6 Dl
  replace DB := ((DB.alloc (.cells #[.int .i64 vn, .int .i64 vt, .int .i64 vk, .string vr, .int .i64 vo, .int .i64 vw, .int .i64 vs] 23)).alloc (.cells #[(.int .i64 J.1), (.int .i64 J.2)] 26)).below hb4 (by have h := DB.lt; go_size)
  have D0 := DB.c 0 _ rfl
  have D1 := DB.c 1 _ rfl
  have D2 := DB.c 2 _ rfl
  have D3 := DB.c 3 _ rfl
  have D4 := DB.c 4 _ rfl
  have D5 := DB.c 5 _ rfl
  have D6 := DB.c 6 _ rfl
  have Df0 := DB.f 0 (Nat.le_of_ble_eq_true rfl)
  have Df1 := DB.f 1 (Nat.le_of_ble_eq_true rfl)
  have Df2 := DB.f 2 (Nat.le_of_ble_eq_true rfl)
  have Df3 := DB.f 3 (Nat.le_of_ble_eq_true rfl)
  have Df4 := DB.f 4 (Nat.le_of_ble_eq_true rfl)
  have Df5 := DB.f 5 (Nat.le_of_ble_eq_true rfl)
  have Df6 := DB.f 6 (Nat.le_of_ble_eq_true rfl)
  have Dl := DB.lt
  clear V0 V1 V2 V3 V4 V5 V6 Vf0 Vf1 Vf2 Vf3 Vf4 Vf5 Vf6 Vl
  replace VB := ((VB.alloc (.cells #[.int .i64 vn, .int .i64 vt, .int .i64 vk, .string vr, .int .i64 vo, .int .i64 vw, .int .i64 vs] 23)).alloc (.cells #[(.int .i64 J.1), (.int .i64 J.2)] 26)).below hb4 (by have h := VB.lt; go_size)
  have V0 := VB.c 0 _ rfl
  have V1 := VB.c 1 _ rfl
  have V2 := VB.c 2 _ rfl
  have V3 := VB.c 3 _ rfl
  have V4 := VB.c 4 _ rfl
  have V5 := VB.c 5 _ rfl
  have V6 := VB.c 6 _ rfl
  have Vf0 := VB.f 0 (Nat.le_of_ble_eq_true rfl)
  have Vf1 := VB.f 1 (Nat.le_of_ble_eq_true rfl)
  have Vf2 := VB.f 2 (Nat.le_of_ble_eq_true rfl)
  have Vf3 := VB.f 3 (Nat.le_of_ble_eq_true rfl)
  have Vf4 := VB.f 4 (Nat.le_of_ble_eq_true rfl)
  have Vf5 := VB.f 5 (Nat.le_of_ble_eq_true rfl)
  have Vf6 := VB.f 6 (Nat.le_of_ble_eq_true rfl)
  have Vl := VB.lt
  have WB := ((Blk.new w3 [.int .i64 vn, .int .i64 vt, .int .i64 vk, .string vr, .int .i64 vo, .int .i64 vw, .int .i64 vs] 23 (g := w3.heap.size) (by go_size)).alloc (.cells #[(.int .i64 J.1), (.int .i64 J.2)] 26)).below hb4 (by go_size)
  have W0 := WB.c 0 _ rfl
  have W1 := WB.c 1 _ rfl
  have W2 := WB.c 2 _ rfl
  have W3 := WB.c 3 _ rfl
  have W4 := WB.c 4 _ rfl
  have W5 := WB.c 5 _ rfl
  have W6 := WB.c 6 _ rfl
  have Wf0 := WB.f 0 (Nat.le_of_ble_eq_true rfl)
  have Wf1 := WB.f 1 (Nat.le_of_ble_eq_true rfl)
  have Wf2 := WB.f 2 (Nat.le_of_ble_eq_true rfl)
  have Wf3 := WB.f 3 (Nat.le_of_ble_eq_true rfl)
  have Wf4 := WB.f 4 (Nat.le_of_ble_eq_true rfl)
  have Wf5 := WB.f 5 (Nat.le_of_ble_eq_true rfl)
  have Wf6 := WB.f 6 (Nat.le_of_ble_eq_true rfl)
  have Wl := WB.lt
  clear hb4
  go_wp2_with fail
  go_ret
  exact ⟨ret_true (by simp), by go_grown⟩
set_option maxRecDepth 100000 in
set_option maxHeartbeats 2000000 in
theorem PushcertTimesAreSigned_bad2 (n t ky : Int) (rf : ByteArray) (o nw s time : Int) (w : World) (hF : Pl.certF ⟨n, t, ky, rf, o, nw, s⟩ = (0, 0)) (hE : (Pl.certF ⟨n, time, ky, rf, o, nw, s⟩).1 ≠ 0) : Calls Try.prog 7 #[.agg (certCells ⟨n, t, ky, rf, o, nw, s⟩).toArray, .int .i64 time] w fun e w' => e = .returned (.bool true) ∧ Below w.heap.size w w' := by
  unfold certCells
  simp only
  have HV := Lib.hid (show Pl.certV ⟨n, t, ky, rf, o, nw, s⟩ = ⟨n, t, ky, rf, o, nw, Pl.certS ⟨n, t, ky, rf, o, nw, s⟩⟩ by rw [Pl.certV, if_pos (by rw [hF])]; rfl)
  replace hF := Lib.hid hF
  
  obtain ⟨J, hgE⟩ : ∃ G, Pl.certF ⟨n, time, ky, rf, o, nw, s⟩ = G := ⟨_, rfl⟩
  have HW := Lib.hid (show Pl.certV ⟨n, time, ky, rf, o, nw, s⟩ = Pl.Cert.zero by rw [Pl.certV, if_neg hE])
  rw [hgE] at hE
  have uE1 : (J.1 == 0) = false := by simp [hE]
  have uE2 : (J.1 != 0) = true := by simp [hE]
  clear hE
  have hE := Lib.hid hgE
  clear hgE
  
  go_enter Try.func7, Try.ntmps7
  go_wp2_with fail
  refine (pushes_any _).mono ?_
  rintro e w1 ⟨rfl, hb1⟩
  have B1 : Below w.heap.size w w1 := bcall (by go_grown) hb1 (by go_size)
  have s1 := B1.size
  have q1 : w.heap.size + 1 ≤ w1.heap.size := by have h := hb1.size; first | omega | (simp at h; omega)
  have AB := (Blk.new w [.int .i64 n, .int .i64 t, .int .i64 ky, .string rf, .int .i64 o, .int .i64 nw, .int .i64 s] 23 (g := w.heap.size) (by go_size)).below hb1 (by go_size)
  have A0 := AB.c 0 _ rfl
  have A1 := AB.c 1 _ rfl
  have A2 := AB.c 2 _ rfl
  have A3 := AB.c 3 _ rfl
  have A4 := AB.c 4 _ rfl
  have A5 := AB.c 5 _ rfl
  have A6 := AB.c 6 _ rfl
  have Af0 := AB.f 0 (Nat.le_of_ble_eq_true rfl)
  have Af1 := AB.f 1 (Nat.le_of_ble_eq_true rfl)
  have Af2 := AB.f 2 (Nat.le_of_ble_eq_true rfl)
  have Af3 := AB.f 3 (Nat.le_of_ble_eq_true rfl)
  have Af4 := AB.f 4 (Nat.le_of_ble_eq_true rfl)
  have Af5 := AB.f 5 (Nat.le_of_ble_eq_true rfl)
  have Af6 := AB.f 6 (Nat.le_of_ble_eq_true rfl)
  have Al := AB.lt
  clear hb1
  go_wp2_with fail
  refine (Certify_any ⟨n, t, ky, rf, o, nw, s⟩ _).mono ?_
  rw [hF.out, HV.out]
  rintro e w2 ⟨rfl, hb2⟩
  unfold certCells
  simp only
  have B2 : Below w.heap.size w w2 := bcall (by go_grown) hb2 (by go_size)
  have s2 := B2.size
  have q2 : w1.heap.size + 1 ≤ w2.heap.size := by have h := hb2.size; first | omega | (simp at h; omega)
  clear A0 A1 A2 A3 A4 A5 A6 Af0 Af1 Af2 Af3 Af4 Af5 Af6 Al
  replace AB := (AB.alloc (.cells #[.int .i64 n, .int .i64 time, .int .i64 ky, .string rf, .int .i64 o, .int .i64 nw, .int .i64 s] 23)).below hb2 (by have h := AB.lt; go_size)
  have A0 := AB.c 0 _ rfl
  have A1 := AB.c 1 _ rfl
  have A2 := AB.c 2 _ rfl
  have A3 := AB.c 3 _ rfl
  have A4 := AB.c 4 _ rfl
  have A5 := AB.c 5 _ rfl
  have A6 := AB.c 6 _ rfl
  have Af0 := AB.f 0 (Nat.le_of_ble_eq_true rfl)
  have Af1 := AB.f 1 (Nat.le_of_ble_eq_true rfl)
  have Af2 := AB.f 2 (Nat.le_of_ble_eq_true rfl)
  have Af3 := AB.f 3 (Nat.le_of_ble_eq_true rfl)
  have Af4 := AB.f 4 (Nat.le_of_ble_eq_true rfl)
  have Af5 := AB.f 5 (Nat.le_of_ble_eq_true rfl)
  have Af6 := AB.f 6 (Nat.le_of_ble_eq_true rfl)
  have Al := AB.lt
  have DB := (Blk.new w1 [.int .i64 n, .int .i64 time, .int .i64 ky, .string rf, .int .i64 o, .int .i64 nw, .int .i64 s] 23 (g := w1.heap.size) (by go_size)).below hb2 (by go_size)
  have D0 := DB.c 0 _ rfl
  have D1 := DB.c 1 _ rfl
  have D2 := DB.c 2 _ rfl
  have D3 := DB.c 3 _ rfl
  have D4 := DB.c 4 _ rfl
  have D5 := DB.c 5 _ rfl
  have D6 := DB.c 6 _ rfl
  have Df0 := DB.f 0 (Nat.le_of_ble_eq_true rfl)
  have Df1 := DB.f 1 (Nat.le_of_ble_eq_true rfl)
  have Df2 := DB.f 2 (Nat.le_of_ble_eq_true rfl)
  have Df3 := DB.f 3 (Nat.le_of_ble_eq_true rfl)
  have Df4 := DB.f 4 (Nat.le_of_ble_eq_true rfl)
  have Df5 := DB.f 5 (Nat.le_of_ble_eq_true rfl)
  have Df6 := DB.f 6 (Nat.le_of_ble_eq_true rfl)
  have Dl := DB.lt
  clear hb2
  go_wp2_with fail
  refine (Certify_any ⟨n, time, ky, rf, o, nw, s⟩ _).mono ?_
  rw [hE.out, HW.out]
  rintro e w3 ⟨rfl, hb3⟩
  unfold certCells Pl.Cert.zero
  simp only
  have B3 : Below w.heap.size w w3 := bcall (by go_grown) hb3 (by go_size)
  have s3 := B3.size
  have q3 : w2.heap.size + 2 ≤ w3.heap.size := by have h := hb3.size; first | omega | (simp at h; omega)
  have bah := (Box2.new (w2.alloc (.cells #[.int .i64 n, .int .i64 t, .int .i64 ky, .string rf, .int .i64 o, .int .i64 nw, .int .i64 (Pl.certS ⟨n, t, ky, rf, o, nw, s⟩)] 23)) (.int .i64 0) (.int .i64 0) 26).below hb3 (by go_size)
  simp only [World.size_alloc] at bah
  obtain ⟨ba0, ba1, baf, bag, bal⟩ := bah
  clear A0 A1 A2 A3 A4 A5 A6 Af0 Af1 Af2 Af3 Af4 Af5 Af6 Al
  replace AB := ((AB.alloc (.cells #[.int .i64 n, .int .i64 t, .int .i64 ky, .string rf, .int .i64 o, .int .i64 nw, .int .i64 (Pl.certS ⟨n, t, ky, rf, o, nw, s⟩)] 23)).alloc (.cells #[(.int .i64 0), (.int .i64 0)] 26)).below hb3 (by have h := AB.lt; go_size)
  have A0 := AB.c 0 _ rfl
  have A1 := AB.c 1 _ rfl
  have A2 := AB.c 2 _ rfl
  have A3 := AB.c 3 _ rfl
  have A4 := AB.c 4 _ rfl
  have A5 := AB.c 5 _ rfl
  have A6 := AB.c 6 _ rfl
  have Af0 := AB.f 0 (Nat.le_of_ble_eq_true rfl)
  have Af1 := AB.f 1 (Nat.le_of_ble_eq_true rfl)
  have Af2 := AB.f 2 (Nat.le_of_ble_eq_true rfl)
  have Af3 := AB.f 3 (Nat.le_of_ble_eq_true rfl)
  have Af4 := AB.f 4 (Nat.le_of_ble_eq_true rfl)
  have Af5 := AB.f 5 (Nat.le_of_ble_eq_true rfl)
  have Af6 := AB.f 6 (Nat.le_of_ble_eq_true rfl)
  have Al := AB.lt
  clear D0 D1 D2 D3 D4 D5 D6 Df0 Df1 Df2 Df3 Df4 Df5 Df6 Dl
  replace DB := ((DB.alloc (.cells #[.int .i64 n, .int .i64 t, .int .i64 ky, .string rf, .int .i64 o, .int .i64 nw, .int .i64 (Pl.certS ⟨n, t, ky, rf, o, nw, s⟩)] 23)).alloc (.cells #[(.int .i64 0), (.int .i64 0)] 26)).below hb3 (by have h := DB.lt; go_size)
  have D0 := DB.c 0 _ rfl
  have D1 := DB.c 1 _ rfl
  have D2 := DB.c 2 _ rfl
  have D3 := DB.c 3 _ rfl
  have D4 := DB.c 4 _ rfl
  have D5 := DB.c 5 _ rfl
  have D6 := DB.c 6 _ rfl
  have Df0 := DB.f 0 (Nat.le_of_ble_eq_true rfl)
  have Df1 := DB.f 1 (Nat.le_of_ble_eq_true rfl)
  have Df2 := DB.f 2 (Nat.le_of_ble_eq_true rfl)
  have Df3 := DB.f 3 (Nat.le_of_ble_eq_true rfl)
  have Df4 := DB.f 4 (Nat.le_of_ble_eq_true rfl)
  have Df5 := DB.f 5 (Nat.le_of_ble_eq_true rfl)
  have Df6 := DB.f 6 (Nat.le_of_ble_eq_true rfl)
  have Dl := DB.lt
  have VB := ((Blk.new w2 [.int .i64 n, .int .i64 t, .int .i64 ky, .string rf, .int .i64 o, .int .i64 nw, .int .i64 (Pl.certS ⟨n, t, ky, rf, o, nw, s⟩)] 23 (g := w2.heap.size) (by go_size)).alloc (.cells #[(.int .i64 0), (.int .i64 0)] 26)).below hb3 (by go_size)
  have V0 := VB.c 0 _ rfl
  have V1 := VB.c 1 _ rfl
  have V2 := VB.c 2 _ rfl
  have V3 := VB.c 3 _ rfl
  have V4 := VB.c 4 _ rfl
  have V5 := VB.c 5 _ rfl
  have V6 := VB.c 6 _ rfl
  have Vf0 := VB.f 0 (Nat.le_of_ble_eq_true rfl)
  have Vf1 := VB.f 1 (Nat.le_of_ble_eq_true rfl)
  have Vf2 := VB.f 2 (Nat.le_of_ble_eq_true rfl)
  have Vf3 := VB.f 3 (Nat.le_of_ble_eq_true rfl)
  have Vf4 := VB.f 4 (Nat.le_of_ble_eq_true rfl)
  have Vf5 := VB.f 5 (Nat.le_of_ble_eq_true rfl)
  have Vf6 := VB.f 6 (Nat.le_of_ble_eq_true rfl)
  have Vl := VB.lt
  clear hb3
  go_wp2_with fail
  refine (CertFault_any ⟨n, t, ky, rf, o, nw, s⟩ _).mono ?_
  rw [hF.out]
  rintro e w4 ⟨rfl, hb4⟩
  have B4 : Below w.heap.size w w4 := bcall (by go_grown) hb4 (by go_size)
  have s4 := B4.size
  have q4 : w3.heap.size + 2 ≤ w4.heap.size := by have h := hb4.size; first | omega | (simp at h; omega)
  obtain ⟨ba0, ba1, baf, bag, bal⟩ := (((Box2.mk ba0 ba1 baf bag bal).alloc (.cells #[.int .i64 0, .int .i64 0, .int .i64 0, .string ⟨#[]⟩, .int .i64 0, .int .i64 0, .int .i64 0] 23)).alloc (.cells #[(.int .i64 J.1), (.int .i64 J.2)] 26)).below hb4 (by go_size)
  have bbh := (Box2.new (w3.alloc (.cells #[.int .i64 0, .int .i64 0, .int .i64 0, .string ⟨#[]⟩, .int .i64 0, .int .i64 0, .int .i64 0] 23)) (.int .i64 J.1) (.int .i64 J.2) 26).below hb4 (by go_size)
  simp only [World.size_alloc] at bbh
  obtain ⟨bb0, bb1, bbf, bbg, bbl⟩ := bbh
  clear A0 A1 A2 A3 A4 A5 A6 Af0 Af1 Af2 Af3 Af4 Af5 Af6 Al
  replace AB := ((AB.alloc (.cells #[.int .i64 0, .int .i64 0, .int .i64 0, .string ⟨#[]⟩, .int .i64 0, .int .i64 0, .int .i64 0] 23)).alloc (.cells #[(.int .i64 J.1), (.int .i64 J.2)] 26)).below hb4 (by have h := AB.lt; go_size)
  have A0 := AB.c 0 _ rfl
  have A1 := AB.c 1 _ rfl
  have A2 := AB.c 2 _ rfl
  have A3 := AB.c 3 _ rfl
  have A4 := AB.c 4 _ rfl
  have A5 := AB.c 5 _ rfl
  have A6 := AB.c 6 _ rfl
  have Af0 := AB.f 0 (Nat.le_of_ble_eq_true rfl)
  have Af1 := AB.f 1 (Nat.le_of_ble_eq_true rfl)
  have Af2 := AB.f 2 (Nat.le_of_ble_eq_true rfl)
  have Af3 := AB.f 3 (Nat.le_of_ble_eq_true rfl)
  have Af4 := AB.f 4 (Nat.le_of_ble_eq_true rfl)
  have Af5 := AB.f 5 (Nat.le_of_ble_eq_true rfl)
  have Af6 := AB.f 6 (Nat.le_of_ble_eq_true rfl)
  have Al := AB.lt
  clear D0 D1 D2 D3 D4 D5 D6 Df0 Df1 Df2 Df3 Df4 Df5 Df6 Dl
  replace DB := ((DB.alloc (.cells #[.int .i64 0, .int .i64 0, .int .i64 0, .string ⟨#[]⟩, .int .i64 0, .int .i64 0, .int .i64 0] 23)).alloc (.cells #[(.int .i64 J.1), (.int .i64 J.2)] 26)).below hb4 (by have h := DB.lt; go_size)
  have D0 := DB.c 0 _ rfl
  have D1 := DB.c 1 _ rfl
  have D2 := DB.c 2 _ rfl
  have D3 := DB.c 3 _ rfl
  have D4 := DB.c 4 _ rfl
  have D5 := DB.c 5 _ rfl
  have D6 := DB.c 6 _ rfl
  have Df0 := DB.f 0 (Nat.le_of_ble_eq_true rfl)
  have Df1 := DB.f 1 (Nat.le_of_ble_eq_true rfl)
  have Df2 := DB.f 2 (Nat.le_of_ble_eq_true rfl)
  have Df3 := DB.f 3 (Nat.le_of_ble_eq_true rfl)
  have Df4 := DB.f 4 (Nat.le_of_ble_eq_true rfl)
  have Df5 := DB.f 5 (Nat.le_of_ble_eq_true rfl)
  have Df6 := DB.f 6 (Nat.le_of_ble_eq_true rfl)
  have Dl := DB.lt
  clear V0 V1 V2 V3 V4 V5 V6 Vf0 Vf1 Vf2 Vf3 Vf4 Vf5 Vf6 Vl
  replace VB := ((VB.alloc (.cells #[.int .i64 0, .int .i64 0, .int .i64 0, .string ⟨#[]⟩, .int .i64 0, .int .i64 0, .int .i64 0] 23)).alloc (.cells #[(.int .i64 J.1), (.int .i64 J.2)] 26)).below hb4 (by have h := VB.lt; go_size)
  have V0 := VB.c 0 _ rfl
  have V1 := VB.c 1 _ rfl
  have V2 := VB.c 2 _ rfl
  have V3 := VB.c 3 _ rfl
  have V4 := VB.c 4 _ rfl
  have V5 := VB.c 5 _ rfl
  have V6 := VB.c 6 _ rfl
  have Vf0 := VB.f 0 (Nat.le_of_ble_eq_true rfl)
  have Vf1 := VB.f 1 (Nat.le_of_ble_eq_true rfl)
  have Vf2 := VB.f 2 (Nat.le_of_ble_eq_true rfl)
  have Vf3 := VB.f 3 (Nat.le_of_ble_eq_true rfl)
  have Vf4 := VB.f 4 (Nat.le_of_ble_eq_true rfl)
  have Vf5 := VB.f 5 (Nat.le_of_ble_eq_true rfl)
  have Vf6 := VB.f 6 (Nat.le_of_ble_eq_true rfl)
  have Vl := VB.lt
  have WB := ((Blk.new w3 [.int .i64 0, .int .i64 0, .int .i64 0, .string ⟨#[]⟩, .int .i64 0, .int .i64 0, .int .i64 0] 23 (g := w3.heap.size) (by go_size)).alloc (.cells #[(.int .i64 J.1), (.int .i64 J.2)] 26)).below hb4 (by go_size)
  have W0 := WB.c 0 _ rfl
  have W1 := WB.c 1 _ rfl
  have W2 := WB.c 2 _ rfl
  have W3 := WB.c 3 _ rfl
  have W4 := WB.c 4 _ rfl
  have W5 := WB.c 5 _ rfl
  have W6 := WB.c 6 _ rfl
  have Wf0 := WB.f 0 (Nat.le_of_ble_eq_true rfl)
  have Wf1 := WB.f 1 (Nat.le_of_ble_eq_true rfl)
  have Wf2 := WB.f 2 (Nat.le_of_ble_eq_true rfl)
  have Wf3 := WB.f 3 (Nat.le_of_ble_eq_true rfl)
  have Wf4 := WB.f 4 (Nat.le_of_ble_eq_true rfl)
  have Wf5 := WB.f 5 (Nat.le_of_ble_eq_true rfl)
  have Wf6 := WB.f 6 (Nat.le_of_ble_eq_true rfl)
  have Wl := WB.lt
  clear hb4
  go_wp2_with fail
  refine (CertFault_any ⟨n, time, ky, rf, o, nw, s⟩ _).mono ?_
  rw [hE.out]
  rintro e w5 ⟨rfl, hb5⟩
  have B5 : Below w.heap.size w w5 := bcall (by go_grown) hb5 (by go_size)
  have s5 := B5.size
  have q5 : w4.heap.size ≤ w5.heap.size := by have h := hb5.size; first | omega | (simp at h; omega)
  obtain ⟨ba0, ba1, baf, bag, bal⟩ := (Box2.mk ba0 ba1 baf bag bal).below hb5 (by go_size)
  obtain ⟨bb0, bb1, bbf, bbg, bbl⟩ := (Box2.mk bb0 bb1 bbf bbg bbl).below hb5 (by go_size)
  clear A0 A1 A2 A3 A4 A5 A6 Af0 Af1 Af2 Af3 Af4 Af5 Af6 Al
  replace AB := AB.below hb5 (by have h := AB.lt; go_size)
  have A0 := AB.c 0 _ rfl
  have A1 := AB.c 1 _ rfl
  have A2 := AB.c 2 _ rfl
  have A3 := AB.c 3 _ rfl
  have A4 := AB.c 4 _ rfl
  have A5 := AB.c 5 _ rfl
  have A6 := AB.c 6 _ rfl
  have Af0 := AB.f 0 (Nat.le_of_ble_eq_true rfl)
  have Af1 := AB.f 1 (Nat.le_of_ble_eq_true rfl)
  have Af2 := AB.f 2 (Nat.le_of_ble_eq_true rfl)
  have Af3 := AB.f 3 (Nat.le_of_ble_eq_true rfl)
  have Af4 := AB.f 4 (Nat.le_of_ble_eq_true rfl)
  have Af5 := AB.f 5 (Nat.le_of_ble_eq_true rfl)
  have Af6 := AB.f 6 (Nat.le_of_ble_eq_true rfl)
  have Al := AB.lt
  clear D0 D1 D2 D3 D4 D5 D6 Df0 Df1 Df2 Df3 Df4 Df5 Df6 Dl
  replace DB := DB.below hb5 (by have h := DB.lt; go_size)
  have D0 := DB.c 0 _ rfl
  have D1 := DB.c 1 _ rfl
  have D2 := DB.c 2 _ rfl
  have D3 := DB.c 3 _ rfl
  have D4 := DB.c 4 _ rfl
  have D5 := DB.c 5 _ rfl
  have D6 := DB.c 6 _ rfl
  have Df0 := DB.f 0 (Nat.le_of_ble_eq_true rfl)
  have Df1 := DB.f 1 (Nat.le_of_ble_eq_true rfl)
  have Df2 := DB.f 2 (Nat.le_of_ble_eq_true rfl)
  have Df3 := DB.f 3 (Nat.le_of_ble_eq_true rfl)
  have Df4 := DB.f 4 (Nat.le_of_ble_eq_true rfl)
  have Df5 := DB.f 5 (Nat.le_of_ble_eq_true rfl)
  have Df6 := DB.f 6 (Nat.le_of_ble_eq_true rfl)
  have Dl := DB.lt
  clear V0 V1 V2 V3 V4 V5 V6 Vf0 Vf1 Vf2 Vf3 Vf4 Vf5 Vf6 Vl
  replace VB := VB.below hb5 (by have h := VB.lt; go_size)
  have V0 := VB.c 0 _ rfl
  have V1 := VB.c 1 _ rfl
  have V2 := VB.c 2 _ rfl
  have V3 := VB.c 3 _ rfl
  have V4 := VB.c 4 _ rfl
  have V5 := VB.c 5 _ rfl
  have V6 := VB.c 6 _ rfl
  have Vf0 := VB.f 0 (Nat.le_of_ble_eq_true rfl)
  have Vf1 := VB.f 1 (Nat.le_of_ble_eq_true rfl)
  have Vf2 := VB.f 2 (Nat.le_of_ble_eq_true rfl)
  have Vf3 := VB.f 3 (Nat.le_of_ble_eq_true rfl)
  have Vf4 := VB.f 4 (Nat.le_of_ble_eq_true rfl)
  have Vf5 := VB.f 5 (Nat.le_of_ble_eq_true rfl)
  have Vf6 := VB.f 6 (Nat.le_of_ble_eq_true rfl)
  have Vl := VB.lt
  clear W0 W1 W2 W3 W4 W5 W6 Wf0 Wf1 Wf2 Wf3 Wf4 Wf5 Wf6 Wl
  replace WB := WB.below hb5 (by have h := WB.lt; go_size)
  have W0 := WB.c 0 _ rfl
  have W1 := WB.c 1 _ rfl
  have W2 := WB.c 2 _ rfl
  have W3 := WB.c 3 _ rfl
  have W4 := WB.c 4 _ rfl
  have W5 := WB.c 5 _ rfl
  have W6 := WB.c 6 _ rfl
  have Wf0 := WB.f 0 (Nat.le_of_ble_eq_true rfl)
  have Wf1 := WB.f 1 (Nat.le_of_ble_eq_true rfl)
  have Wf2 := WB.f 2 (Nat.le_of_ble_eq_true rfl)
  have Wf3 := WB.f 3 (Nat.le_of_ble_eq_true rfl)
  have Wf4 := WB.f 4 (Nat.le_of_ble_eq_true rfl)
  have Wf5 := WB.f 5 (Nat.le_of_ble_eq_true rfl)
  have Wf6 := WB.f 6 (Nat.le_of_ble_eq_true rfl)
  have Wl := WB.lt
  clear hb5
  go_wp2_with fail
  go_ret
  exact ⟨ret_true (by simp), by go_grown⟩
set_option maxRecDepth 100000 in
set_option maxHeartbeats 2000000 in
theorem PushcertTimesAreSigned_ok (n t ky : Int) (rf : ByteArray) (o nw s time : Int) (w : World) (hF : Pl.certF ⟨n, t, ky, rf, o, nw, s⟩ = (0, 0)) (hE : Pl.certF ⟨n, time, ky, rf, o, nw, s⟩ = (0, 0)) (hT : (Pl.certS ⟨n, t, ky, rf, o, nw, s⟩ = Pl.certS ⟨n, time, ky, rf, o, nw, s⟩) ↔ t = time) : Calls Try.prog 7 #[.agg (certCells ⟨n, t, ky, rf, o, nw, s⟩).toArray, .int .i64 time] w fun e w' => e = .returned (.bool true) ∧ Below w.heap.size w w' := by
  unfold certCells
  simp only
  have HV := Lib.hid (show Pl.certV ⟨n, t, ky, rf, o, nw, s⟩ = ⟨n, t, ky, rf, o, nw, Pl.certS ⟨n, t, ky, rf, o, nw, s⟩⟩ by rw [Pl.certV, if_pos (by rw [hF])]; rfl)
  replace hF := Lib.hid hF
  
  have HW := Lib.hid (show Pl.certV ⟨n, time, ky, rf, o, nw, s⟩ = ⟨n, time, ky, rf, o, nw, Pl.certS ⟨n, time, ky, rf, o, nw, s⟩⟩ by rw [Pl.certV, if_pos (by rw [hE])]; rfl)
  replace hE := Lib.hid hE
  
  obtain ⟨SF, hSF⟩ : ∃ x, Pl.certS ⟨n, t, ky, rf, o, nw, s⟩ = x := ⟨_, rfl⟩
  obtain ⟨SE, hSE⟩ : ∃ x, Pl.certS ⟨n, time, ky, rf, o, nw, s⟩ = x := ⟨_, rfl⟩
  rw [hSF] at HV hT
  rw [hSE] at HW hT
  have uT : (SF == SE) = (t == time) := by rw [Bool.eq_iff_iff, beq_iff_eq, beq_iff_eq]; exact hT
  clear hT hSF hSE
  go_enter Try.func7, Try.ntmps7
  go_wp2_with fail
  refine (pushes_any _).mono ?_
  rintro e w1 ⟨rfl, hb1⟩
  have B1 : Below w.heap.size w w1 := bcall (by go_grown) hb1 (by go_size)
  have s1 := B1.size
  have q1 : w.heap.size + 1 ≤ w1.heap.size := by have h := hb1.size; first | omega | (simp at h; omega)
  have AB := (Blk.new w [.int .i64 n, .int .i64 t, .int .i64 ky, .string rf, .int .i64 o, .int .i64 nw, .int .i64 s] 23 (g := w.heap.size) (by go_size)).below hb1 (by go_size)
  have A0 := AB.c 0 _ rfl
  have A1 := AB.c 1 _ rfl
  have A2 := AB.c 2 _ rfl
  have A3 := AB.c 3 _ rfl
  have A4 := AB.c 4 _ rfl
  have A5 := AB.c 5 _ rfl
  have A6 := AB.c 6 _ rfl
  have Af0 := AB.f 0 (Nat.le_of_ble_eq_true rfl)
  have Af1 := AB.f 1 (Nat.le_of_ble_eq_true rfl)
  have Af2 := AB.f 2 (Nat.le_of_ble_eq_true rfl)
  have Af3 := AB.f 3 (Nat.le_of_ble_eq_true rfl)
  have Af4 := AB.f 4 (Nat.le_of_ble_eq_true rfl)
  have Af5 := AB.f 5 (Nat.le_of_ble_eq_true rfl)
  have Af6 := AB.f 6 (Nat.le_of_ble_eq_true rfl)
  have Al := AB.lt
  clear hb1
  go_wp2_with fail
  refine (Certify_any ⟨n, t, ky, rf, o, nw, s⟩ _).mono ?_
  rw [hF.out, HV.out]
  rintro e w2 ⟨rfl, hb2⟩
  unfold certCells
  simp only
  have B2 : Below w.heap.size w w2 := bcall (by go_grown) hb2 (by go_size)
  have s2 := B2.size
  have q2 : w1.heap.size + 1 ≤ w2.heap.size := by have h := hb2.size; first | omega | (simp at h; omega)
  clear A0 A1 A2 A3 A4 A5 A6 Af0 Af1 Af2 Af3 Af4 Af5 Af6 Al
  replace AB := (AB.alloc (.cells #[.int .i64 n, .int .i64 time, .int .i64 ky, .string rf, .int .i64 o, .int .i64 nw, .int .i64 s] 23)).below hb2 (by have h := AB.lt; go_size)
  have A0 := AB.c 0 _ rfl
  have A1 := AB.c 1 _ rfl
  have A2 := AB.c 2 _ rfl
  have A3 := AB.c 3 _ rfl
  have A4 := AB.c 4 _ rfl
  have A5 := AB.c 5 _ rfl
  have A6 := AB.c 6 _ rfl
  have Af0 := AB.f 0 (Nat.le_of_ble_eq_true rfl)
  have Af1 := AB.f 1 (Nat.le_of_ble_eq_true rfl)
  have Af2 := AB.f 2 (Nat.le_of_ble_eq_true rfl)
  have Af3 := AB.f 3 (Nat.le_of_ble_eq_true rfl)
  have Af4 := AB.f 4 (Nat.le_of_ble_eq_true rfl)
  have Af5 := AB.f 5 (Nat.le_of_ble_eq_true rfl)
  have Af6 := AB.f 6 (Nat.le_of_ble_eq_true rfl)
  have Al := AB.lt
  have DB := (Blk.new w1 [.int .i64 n, .int .i64 time, .int .i64 ky, .string rf, .int .i64 o, .int .i64 nw, .int .i64 s] 23 (g := w1.heap.size) (by go_size)).below hb2 (by go_size)
  have D0 := DB.c 0 _ rfl
  have D1 := DB.c 1 _ rfl
  have D2 := DB.c 2 _ rfl
  have D3 := DB.c 3 _ rfl
  have D4 := DB.c 4 _ rfl
  have D5 := DB.c 5 _ rfl
  have D6 := DB.c 6 _ rfl
  have Df0 := DB.f 0 (Nat.le_of_ble_eq_true rfl)
  have Df1 := DB.f 1 (Nat.le_of_ble_eq_true rfl)
  have Df2 := DB.f 2 (Nat.le_of_ble_eq_true rfl)
  have Df3 := DB.f 3 (Nat.le_of_ble_eq_true rfl)
  have Df4 := DB.f 4 (Nat.le_of_ble_eq_true rfl)
  have Df5 := DB.f 5 (Nat.le_of_ble_eq_true rfl)
  have Df6 := DB.f 6 (Nat.le_of_ble_eq_true rfl)
  have Dl := DB.lt
  clear hb2
  go_wp2_with fail
  refine (Certify_any ⟨n, time, ky, rf, o, nw, s⟩ _).mono ?_
  rw [hE.out, HW.out]
  rintro e w3 ⟨rfl, hb3⟩
  unfold certCells
  simp only
  have B3 : Below w.heap.size w w3 := bcall (by go_grown) hb3 (by go_size)
  have s3 := B3.size
  have q3 : w2.heap.size + 2 ≤ w3.heap.size := by have h := hb3.size; first | omega | (simp at h; omega)
  have bah := (Box2.new (w2.alloc (.cells #[.int .i64 n, .int .i64 t, .int .i64 ky, .string rf, .int .i64 o, .int .i64 nw, .int .i64 SF] 23)) (.int .i64 0) (.int .i64 0) 26).below hb3 (by go_size)
  simp only [World.size_alloc] at bah
  obtain ⟨ba0, ba1, baf, bag, bal⟩ := bah
  clear A0 A1 A2 A3 A4 A5 A6 Af0 Af1 Af2 Af3 Af4 Af5 Af6 Al
  replace AB := ((AB.alloc (.cells #[.int .i64 n, .int .i64 t, .int .i64 ky, .string rf, .int .i64 o, .int .i64 nw, .int .i64 SF] 23)).alloc (.cells #[(.int .i64 0), (.int .i64 0)] 26)).below hb3 (by have h := AB.lt; go_size)
  have A0 := AB.c 0 _ rfl
  have A1 := AB.c 1 _ rfl
  have A2 := AB.c 2 _ rfl
  have A3 := AB.c 3 _ rfl
  have A4 := AB.c 4 _ rfl
  have A5 := AB.c 5 _ rfl
  have A6 := AB.c 6 _ rfl
  have Af0 := AB.f 0 (Nat.le_of_ble_eq_true rfl)
  have Af1 := AB.f 1 (Nat.le_of_ble_eq_true rfl)
  have Af2 := AB.f 2 (Nat.le_of_ble_eq_true rfl)
  have Af3 := AB.f 3 (Nat.le_of_ble_eq_true rfl)
  have Af4 := AB.f 4 (Nat.le_of_ble_eq_true rfl)
  have Af5 := AB.f 5 (Nat.le_of_ble_eq_true rfl)
  have Af6 := AB.f 6 (Nat.le_of_ble_eq_true rfl)
  have Al := AB.lt
  clear D0 D1 D2 D3 D4 D5 D6 Df0 Df1 Df2 Df3 Df4 Df5 Df6 Dl
  replace DB := ((DB.alloc (.cells #[.int .i64 n, .int .i64 t, .int .i64 ky, .string rf, .int .i64 o, .int .i64 nw, .int .i64 SF] 23)).alloc (.cells #[(.int .i64 0), (.int .i64 0)] 26)).below hb3 (by have h := DB.lt; go_size)
  have D0 := DB.c 0 _ rfl
  have D1 := DB.c 1 _ rfl
  have D2 := DB.c 2 _ rfl
  have D3 := DB.c 3 _ rfl
  have D4 := DB.c 4 _ rfl
  have D5 := DB.c 5 _ rfl
  have D6 := DB.c 6 _ rfl
  have Df0 := DB.f 0 (Nat.le_of_ble_eq_true rfl)
  have Df1 := DB.f 1 (Nat.le_of_ble_eq_true rfl)
  have Df2 := DB.f 2 (Nat.le_of_ble_eq_true rfl)
  have Df3 := DB.f 3 (Nat.le_of_ble_eq_true rfl)
  have Df4 := DB.f 4 (Nat.le_of_ble_eq_true rfl)
  have Df5 := DB.f 5 (Nat.le_of_ble_eq_true rfl)
  have Df6 := DB.f 6 (Nat.le_of_ble_eq_true rfl)
  have Dl := DB.lt
  have VB := ((Blk.new w2 [.int .i64 n, .int .i64 t, .int .i64 ky, .string rf, .int .i64 o, .int .i64 nw, .int .i64 SF] 23 (g := w2.heap.size) (by go_size)).alloc (.cells #[(.int .i64 0), (.int .i64 0)] 26)).below hb3 (by go_size)
  have V0 := VB.c 0 _ rfl
  have V1 := VB.c 1 _ rfl
  have V2 := VB.c 2 _ rfl
  have V3 := VB.c 3 _ rfl
  have V4 := VB.c 4 _ rfl
  have V5 := VB.c 5 _ rfl
  have V6 := VB.c 6 _ rfl
  have Vf0 := VB.f 0 (Nat.le_of_ble_eq_true rfl)
  have Vf1 := VB.f 1 (Nat.le_of_ble_eq_true rfl)
  have Vf2 := VB.f 2 (Nat.le_of_ble_eq_true rfl)
  have Vf3 := VB.f 3 (Nat.le_of_ble_eq_true rfl)
  have Vf4 := VB.f 4 (Nat.le_of_ble_eq_true rfl)
  have Vf5 := VB.f 5 (Nat.le_of_ble_eq_true rfl)
  have Vf6 := VB.f 6 (Nat.le_of_ble_eq_true rfl)
  have Vl := VB.lt
  clear hb3
  go_wp2_with fail
  go_ret
  exact ⟨ret_true (by simp), by go_grown⟩
theorem PushcertTimesAreSigned_main (c : Pl.Cert) (time : Int) (w : World) : Calls Try.prog 7 #[.agg (certCells c).toArray, .int .i64 time] w fun e w' => e = .returned (.bool true) ∧ Below w.heap.size w w' := by
  obtain ⟨n, t, ky, rf, o, nw, s⟩ := c
  rcases Pl.certF_cases ⟨n, t, ky, rf, o, nw, s⟩ with ⟨hF, hB, _, _⟩ | hF
  · rcases Pl.certF_cases ⟨n, time, ky, rf, o, nw, s⟩ with ⟨hE, hB2, _, _⟩ | hE
    · exact PushcertTimesAreSigned_ok n t ky rf o nw s time w hF hE (Pl.certS_time (Pl.certB_true hB).2.1 (Pl.certB_true hB2).2.1)
    · exact PushcertTimesAreSigned_bad2 n t ky rf o nw s time w hF hE
  · exact PushcertTimesAreSigned_bad n t ky rf o nw s time w hF
end Go.Proofs.Ytkhkijpkgogncaa
