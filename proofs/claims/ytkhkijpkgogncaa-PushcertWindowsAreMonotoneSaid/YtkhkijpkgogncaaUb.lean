/- Contracts: certification, by the program and by the reference. -/
import Derived.Test.YtkhkijpkgogncaaUa
import Derived.Test.YtkhkijpkgogncaaKn
namespace Go.Proofs.Ytkhkijpkgogncaa
open Go.RowKit

theorem byteCells_eq (s : ByteArray) : byteCells s = byteVals s.data.toList := rfl
theorem msg5_len (c : Pl.Cert) : (Pl.msgS (Pl.certNs c)).length = 40 := by rw [Pl.msgS_length]; rfl
set_option maxRecDepth 100000 in
set_option maxHeartbeats 1000000 in
theorem Certify_bad (n t k : Int) (rf : ByteArray) (o nw s : Int) (w : World) (hF : (Pl.certF ⟨n, t, k, rf, o, nw, s⟩).1 ≠ 0) :
    Calls Try.prog 22 #[.agg (certCells ⟨n, t, k, rf, o, nw, s⟩).toArray] w fun e w' => e = .returned (.tuple #[.agg (certCells (Pl.certV ⟨n, t, k, rf, o, nw, s⟩)).toArray, .agg #[.int .i64 (Pl.certF ⟨n, t, k, rf, o, nw, s⟩).1, .int .i64 (Pl.certF ⟨n, t, k, rf, o, nw, s⟩).2]]) ∧ Below w.heap.size w w' := by
  have hV : Pl.certV ⟨n, t, k, rf, o, nw, s⟩ = Pl.Cert.zero := by rw [Pl.certV, if_neg hF]
  rw [hV]
  obtain ⟨G, hG⟩ : ∃ G, Pl.certF ⟨n, t, k, rf, o, nw, s⟩ = G := ⟨_, rfl⟩
  rw [hG] at hF ⊢
  replace hG := Lib.hid hG
  have u1 : (G.1 == 0) = false := by simp [hF]
  have u2 : (G.1 != 0) = true := by simp [hF]
  clear hV hF
  unfold certCells Pl.Cert.zero
  simp only
  go_enter Try.func22, Try.ntmps22
  go_wp2_with fail
  refine (certValidate_any ⟨n, t, k, rf, o, nw, s⟩ _).mono ?_
  rw [hG.out]
  rintro e w1 ⟨rfl, hb1⟩
  have B1 : Below w.heap.size w w1 := bcall (by go_grown) hb1 (by go_size)
  have s1 := B1.size
  have q1 : w.heap.size + 3 ≤ w1.heap.size := by have h := hb1.size; first | omega | (simp at h; omega)
  have bah := (Box2.new ((w.alloc (.cells #[.int .i64 n, .int .i64 t, .int .i64 k, .string rf, .int .i64 o, .int .i64 nw, .int .i64 s] 23)).alloc (.cells #[.int .i64 0, .int .i64 0, .int .i64 0, .string ⟨#[]⟩, .int .i64 0, .int .i64 0, .int .i64 0] 23)) (.int .i64 0) (.int .i64 0) 26).below hb1 (by go_size)
  simp only [World.size_alloc] at bah
  obtain ⟨ba0, ba1, baf, bag, bal⟩ := bah
  have AB := (((Blk.new w [.int .i64 n, .int .i64 t, .int .i64 k, .string rf, .int .i64 o, .int .i64 nw, .int .i64 s] 23 (g := w.heap.size) (by go_size)).alloc (.cells #[.int .i64 0, .int .i64 0, .int .i64 0, .string ⟨#[]⟩, .int .i64 0, .int .i64 0, .int .i64 0] 23)).alloc (.cells #[(.int .i64 0), (.int .i64 0)] 26)).below hb1 (by go_size)
  have A0 := AB.c 0 _ rfl
  have A1 := AB.c 1 _ rfl
  have A2 := AB.c 2 _ rfl
  have A3 := AB.c 3 _ rfl
  have A4 := AB.c 4 _ rfl
  have A5 := AB.c 5 _ rfl
  have A6 := AB.c 6 _ rfl
  have Af0 := AB.f 0 (Nat.le_of_ble_eq_true rfl)
  have Af1 := AB.f 1 (Nat.le_of_ble_eq_true rfl)
  have Af2 := AB.f 2 (Nat.le_of_ble_eq_true rfl)
  have Af3 := AB.f 3 (Nat.le_of_ble_eq_true rfl)
  have Af4 := AB.f 4 (Nat.le_of_ble_eq_true rfl)
  have Af5 := AB.f 5 (Nat.le_of_ble_eq_true rfl)
  have Af6 := AB.f 6 (Nat.le_of_ble_eq_true rfl)
  have Al := AB.lt
  have ZB := ((Blk.new (w.alloc (.cells #[.int .i64 n, .int .i64 t, .int .i64 k, .string rf, .int .i64 o, .int .i64 nw, .int .i64 s] 23)) [.int .i64 0, .int .i64 0, .int .i64 0, .string ⟨#[]⟩, .int .i64 0, .int .i64 0, .int .i64 0] 23 (g := w.heap.size + 1) (by go_size)).alloc (.cells #[(.int .i64 0), (.int .i64 0)] 26)).below hb1 (by go_size)
  have Z0 := ZB.c 0 _ rfl
  have Z1 := ZB.c 1 _ rfl
  have Z2 := ZB.c 2 _ rfl
  have Z3 := ZB.c 3 _ rfl
  have Z4 := ZB.c 4 _ rfl
  have Z5 := ZB.c 5 _ rfl
  have Z6 := ZB.c 6 _ rfl
  have Zf0 := ZB.f 0 (Nat.le_of_ble_eq_true rfl)
  have Zf1 := ZB.f 1 (Nat.le_of_ble_eq_true rfl)
  have Zf2 := ZB.f 2 (Nat.le_of_ble_eq_true rfl)
  have Zf3 := ZB.f 3 (Nat.le_of_ble_eq_true rfl)
  have Zf4 := ZB.f 4 (Nat.le_of_ble_eq_true rfl)
  have Zf5 := ZB.f 5 (Nat.le_of_ble_eq_true rfl)
  have Zf6 := ZB.f 6 (Nat.le_of_ble_eq_true rfl)
  have Zl := ZB.lt
  clear hb1
  go_wp2_with fail
  clear AB
  clear A0 Af0 A1 Af1 A2 Af2 A3 Af3 A4 Af4 A5 Af5 A6 Af6 Al
  clear Z0 Zf0 Z1 Zf1 Z2 Zf2 Z3 Zf3 Z4 Zf4 Z5 Zf5 Z6 Zf6 Zl
  have ZB := (ZB.alloc (.cells #[.int .i64 G.1, .int .i64 G.2] 26)).drew
  have baB := ((Box2.mk ba0 ba1 baf bag bal).alloc (.cells #[.int .i64 G.1, .int .i64 G.2] 26)).drew
  have bbB := (Box2.new w1 (.int .i64 G.1) (.int .i64 G.2) 26).drew
  have BW := (B1.alloc s1 (.cells #[.int .i64 G.1, .int .i64 G.2] 26)).drew
  have nz : w1.heap.size ≠ w.heap.size + 1 := by omega
  clear ba0 ba1 baf bag bal
  refine wp_region_ordD [(2, w.heap.size + 1), (3, w.heap.size + 1 + 1)] [0, 1, 2, 3] (by kernel_rfl) (by kernel_rfl) ?_
  generalize (w1.alloc (.cells #[.int .i64 G.1, .int .i64 G.2] 26)).drew = W at *
  have Z0 := ZB.c 0 _ rfl
  have Zf0 := ZB.f 0 (Nat.le_of_ble_eq_true rfl)
  have Z1 := ZB.c 1 _ rfl
  have Zf1 := ZB.f 1 (Nat.le_of_ble_eq_true rfl)
  have Z2 := ZB.c 2 _ rfl
  have Zf2 := ZB.f 2 (Nat.le_of_ble_eq_true rfl)
  have Z3 := ZB.c 3 _ rfl
  have Zf3 := ZB.f 3 (Nat.le_of_ble_eq_true rfl)
  have Z4 := ZB.c 4 _ rfl
  have Zf4 := ZB.f 4 (Nat.le_of_ble_eq_true rfl)
  have Z5 := ZB.c 5 _ rfl
  have Zf5 := ZB.f 5 (Nat.le_of_ble_eq_true rfl)
  have Z6 := ZB.c 6 _ rfl
  have Zf6 := ZB.f 6 (Nat.le_of_ble_eq_true rfl)
  have Zl := ZB.lt
  obtain ⟨ba0, ba1, baf, bag, bal⟩ := baB
  obtain ⟨bb0, bb1, bbf, bbg, bbl⟩ := bbB
  repeat (refine wpD_pure rfl rfl ?_; go_big_quiet_step (fail); refine wpQuiet_nil ?_)
  refine wpD_rd [w.heap.size + 1] (by kernel_rfl) rfl rfl ?_; go_big_quiet_step (fail); refine wpQuiet_nil ?_
  try simp only [Act.put, List.setIfInBounds_toArray, List.set_cons_zero, List.set_cons_succ]
  refine wpD_st rfl rfl rfl (w' := W) (by simp [go_sem, Z0, Z1, Z2, Z3, Z4, Z5, Z6, Zf0, Zf1, Zf2, Zf3, Zf4, Zf5, Zf6]; simp [setCell_id, Z0, Z1, Z2, Z3, Z4, Z5, Z6]) (ExtD.refl _ _) ?_
  try simp only [Act.put]
  refine wpD_st rfl rfl rfl (by simp [go_sem, ba0, ba1, baf, bag]; rfl) (((ExtD.refl _ _).setCell (by exact List.mem_singleton.2 rfl) _).setCell (by exact List.mem_singleton.2 rfl) _) ?_
  refine wpD_nil ?_
  try simp only [Act.put]
  go_wp2_with fail
  refine bodyPost_ret (v := .tuple #[.agg #[.int .i64 0, .int .i64 0, .int .i64 0, .string ⟨#[]⟩, .int .i64 0, .int .i64 0, .int .i64 0], .agg #[.int .i64 G.1, .int .i64 G.2]]) (by simp [results, Try.results22, go_sem, Z0, Z1, Z2, Z3, Z4, Z5, Z6, ba0, ba1]) rfl ⟨rfl, by go_grown⟩
set_option maxRecDepth 100000 in
set_option maxHeartbeats 1000000 in
theorem Certify_ok (n t k : Int) (rf : ByteArray) (o nw s : Int) (w : World) (hF : Pl.certF ⟨n, t, k, rf, o, nw, s⟩ = (0, 0)) (hB : Pl.certB ⟨n, t, k, rf, o, nw, s⟩ = true) (h60 : rf.size ≤ 60) :
    Calls Try.prog 22 #[.agg (certCells ⟨n, t, k, rf, o, nw, s⟩).toArray] w fun e w' => e = .returned (.tuple #[.agg (certCells (Pl.certV ⟨n, t, k, rf, o, nw, s⟩)).toArray, .agg #[.int .i64 (Pl.certF ⟨n, t, k, rf, o, nw, s⟩).1, .int .i64 (Pl.certF ⟨n, t, k, rf, o, nw, s⟩).2]]) ∧ Below w.heap.size w w' := by
  have hV : Pl.certV ⟨n, t, k, rf, o, nw, s⟩ = Pl.Cert.signed ⟨n, t, k, rf, o, nw, s⟩ := by rw [Pl.certV, hF]; rfl
  rw [hV, hF]
  have hd := Pl.certNs_digest hB
  have hk := (Pl.certB_true hB).2.2.1
  simp only at hk
  have HM := Lib.hid (msgF_ok (xs := Pl.certNs ⟨n, t, k, rf, o, nw, s⟩) (by simp [Pl.certNs]) hd)
  have HMV := Lib.hid (Pl.msgV_ok HM.out)
  have HL := Lib.hid (msg5_len ⟨n, t, k, rf, o, nw, s⟩)
  have HF := Lib.hid hF
  clear hV hF hB hd
  unfold certCells Pl.Cert.signed
  simp only
  obtain ⟨SG, hSG⟩ : ∃ x, Pl.certS ⟨n, t, k, rf, o, nw, s⟩ = x := ⟨_, rfl⟩
  rw [hSG]
  replace hSG := Lib.hid hSG
  go_enter Try.func22, Try.ntmps22
  go_wp2_with fail
  refine (certValidate_any ⟨n, t, k, rf, o, nw, s⟩ _).mono ?_
  rw [HF.out]
  rintro e w1 ⟨rfl, hb1⟩
  have B1 : Below w.heap.size w w1 := bcall (by go_grown) hb1 (by go_size)
  have s1 := B1.size
  have q1 : w.heap.size + 3 ≤ w1.heap.size := by have h := hb1.size; first | omega | (simp at h; omega)
  have bah := (Box2.new ((w.alloc (.cells #[.int .i64 n, .int .i64 t, .int .i64 k, .string rf, .int .i64 o, .int .i64 nw, .int .i64 s] 23)).alloc (.cells #[.int .i64 0, .int .i64 0, .int .i64 0, .string ⟨#[]⟩, .int .i64 0, .int .i64 0, .int .i64 0] 23)) (.int .i64 0) (.int .i64 0) 26).below hb1 (by go_size)
  simp only [World.size_alloc] at bah
  obtain ⟨ba0, ba1, baf, bag, bal⟩ := bah
  have AB := (((Blk.new w [.int .i64 n, .int .i64 t, .int .i64 k, .string rf, .int .i64 o, .int .i64 nw, .int .i64 s] 23 (g := w.heap.size) (by go_size)).alloc (.cells #[.int .i64 0, .int .i64 0, .int .i64 0, .string ⟨#[]⟩, .int .i64 0, .int .i64 0, .int .i64 0] 23)).alloc (.cells #[(.int .i64 0), (.int .i64 0)] 26)).below hb1 (by go_size)
  have A0 := AB.c 0 _ rfl
  have A1 := AB.c 1 _ rfl
  have A2 := AB.c 2 _ rfl
  have A3 := AB.c 3 _ rfl
  have A4 := AB.c 4 _ rfl
  have A5 := AB.c 5 _ rfl
  have A6 := AB.c 6 _ rfl
  have Af0 := AB.f 0 (Nat.le_of_ble_eq_true rfl)
  have Af1 := AB.f 1 (Nat.le_of_ble_eq_true rfl)
  have Af2 := AB.f 2 (Nat.le_of_ble_eq_true rfl)
  have Af3 := AB.f 3 (Nat.le_of_ble_eq_true rfl)
  have Af4 := AB.f 4 (Nat.le_of_ble_eq_true rfl)
  have Af5 := AB.f 5 (Nat.le_of_ble_eq_true rfl)
  have Af6 := AB.f 6 (Nat.le_of_ble_eq_true rfl)
  have Al := AB.lt
  have ZB := ((Blk.new (w.alloc (.cells #[.int .i64 n, .int .i64 t, .int .i64 k, .string rf, .int .i64 o, .int .i64 nw, .int .i64 s] 23)) [.int .i64 0, .int .i64 0, .int .i64 0, .string ⟨#[]⟩, .int .i64 0, .int .i64 0, .int .i64 0] 23 (g := w.heap.size + 1) (by go_size)).alloc (.cells #[(.int .i64 0), (.int .i64 0)] 26)).below hb1 (by go_size)
  have Z0 := ZB.c 0 _ rfl
  have Z1 := ZB.c 1 _ rfl
  have Z2 := ZB.c 2 _ rfl
  have Z3 := ZB.c 3 _ rfl
  have Z4 := ZB.c 4 _ rfl
  have Z5 := ZB.c 5 _ rfl
  have Z6 := ZB.c 6 _ rfl
  have Zf0 := ZB.f 0 (Nat.le_of_ble_eq_true rfl)
  have Zf1 := ZB.f 1 (Nat.le_of_ble_eq_true rfl)
  have Zf2 := ZB.f 2 (Nat.le_of_ble_eq_true rfl)
  have Zf3 := ZB.f 3 (Nat.le_of_ble_eq_true rfl)
  have Zf4 := ZB.f 4 (Nat.le_of_ble_eq_true rfl)
  have Zf5 := ZB.f 5 (Nat.le_of_ble_eq_true rfl)
  have Zf6 := ZB.f 6 (Nat.le_of_ble_eq_true rfl)
  have Zl := ZB.lt
  clear hb1
  go_wp2_with fail
  refine (Message_any (Pl.certNs ⟨n, t, k, rf, o, nw, s⟩) _ 5 _ (Sl.fresh (C := intVals (Pl.certNs ⟨n, t, k, rf, o, nw, s⟩)) (by simp) rfl (by simp [Pl.certNs]) (by simp [maxLen])) (by simp [Pl.certNs])).mono ?_
  rintro e w2 ⟨o2, k2, rfl, own2, hb2⟩
  rw [HMV.out, HL.out] at own2
  rw [HM.out, HMV.out, HL.out]
  have B2 : Below w.heap.size w w2 := bcall (by go_grown) hb2 (by go_size)
  have s2 := B2.size
  have q2 : w1.heap.size + 2 ≤ w2.heap.size := by have h := hb2.size; first | omega | (simp at h; omega)
  obtain ⟨ba0, ba1, baf, bag, bal⟩ := (((Box2.mk ba0 ba1 baf bag bal).alloc (.cells #[(.int .i64 0), (.int .i64 0)] 26)).alloc (.cells #[.int .i64 n, .int .i64 t, .int .i64 k, .int .i64 o, .int .i64 nw] 3)).below hb2 (by go_size)
  obtain ⟨bb0, bb1, bbf, bbg, bbl⟩ := ((Box2.new w1 (.int .i64 0) (.int .i64 0) 26).alloc (.cells #[.int .i64 n, .int .i64 t, .int .i64 k, .int .i64 o, .int .i64 nw] 3)).below hb2 (by go_size)
  clear A0 A1 A2 A3 A4 A5 A6 Af0 Af1 Af2 Af3 Af4 Af5 Af6 Al
  replace AB := ((AB.alloc (.cells #[(.int .i64 0), (.int .i64 0)] 26)).alloc (.cells #[.int .i64 n, .int .i64 t, .int .i64 k, .int .i64 o, .int .i64 nw] 3)).below hb2 (by have h := AB.lt; go_size)
  have A0 := AB.c 0 _ rfl
  have A1 := AB.c 1 _ rfl
  have A2 := AB.c 2 _ rfl
  have A3 := AB.c 3 _ rfl
  have A4 := AB.c 4 _ rfl
  have A5 := AB.c 5 _ rfl
  have A6 := AB.c 6 _ rfl
  have Af0 := AB.f 0 (Nat.le_of_ble_eq_true rfl)
  have Af1 := AB.f 1 (Nat.le_of_ble_eq_true rfl)
  have Af2 := AB.f 2 (Nat.le_of_ble_eq_true rfl)
  have Af3 := AB.f 3 (Nat.le_of_ble_eq_true rfl)
  have Af4 := AB.f 4 (Nat.le_of_ble_eq_true rfl)
  have Af5 := AB.f 5 (Nat.le_of_ble_eq_true rfl)
  have Af6 := AB.f 6 (Nat.le_of_ble_eq_true rfl)
  have Al := AB.lt
  clear Z0 Z1 Z2 Z3 Z4 Z5 Z6 Zf0 Zf1 Zf2 Zf3 Zf4 Zf5 Zf6 Zl
  replace ZB := ((ZB.alloc (.cells #[(.int .i64 0), (.int .i64 0)] 26)).alloc (.cells #[.int .i64 n, .int .i64 t, .int .i64 k, .int .i64 o, .int .i64 nw] 3)).below hb2 (by have h := ZB.lt; go_size)
  have Z0 := ZB.c 0 _ rfl
  have Z1 := ZB.c 1 _ rfl
  have Z2 := ZB.c 2 _ rfl
  have Z3 := ZB.c 3 _ rfl
  have Z4 := ZB.c 4 _ rfl
  have Z5 := ZB.c 5 _ rfl
  have Z6 := ZB.c 6 _ rfl
  have Zf0 := ZB.f 0 (Nat.le_of_ble_eq_true rfl)
  have Zf1 := ZB.f 1 (Nat.le_of_ble_eq_true rfl)
  have Zf2 := ZB.f 2 (Nat.le_of_ble_eq_true rfl)
  have Zf3 := ZB.f 3 (Nat.le_of_ble_eq_true rfl)
  have Zf4 := ZB.f 4 (Nat.le_of_ble_eq_true rfl)
  have Zf5 := ZB.f 5 (Nat.le_of_ble_eq_true rfl)
  have Zf6 := ZB.f 6 (Nat.le_of_ble_eq_true rfl)
  have Zl := ZB.lt
  clear hb2
  obtain ⟨g2, rfl, hg2, hgl, -⟩ := own_cell own2 (by decide)
  have hg2 : w1.heap.size + 2 ≤ g2 := by simp at hg2; omega
  go_wp2_with fail
  refine wp_region_ordD [(5, g2), (11, w.heap.size)] [0, 1, 2, 3, 4, 5, 6, 7, 8, 9, 10, 11] (by kernel_rfl) (by kernel_rfl) ?_
  have bx : Below w2.heap.size w2 (w2.alloc (.cells #[.int .i64 0, .int .i64 0] 26)).drew := ((Below.refl _ _).alloc (Nat.le_refl _) _).drew
  have own3 := own_base0 (ownsRow_below own2 bx (Nat.le_refl _)) (show w1.heap.size + 2 ≤ _ by go_size)
  have sx := bx.size
  clear A0 Af0 A1 Af1 A2 Af2 A3 Af3 A4 Af4 A5 Af5 A6 Af6 Al
  clear Z0 Zf0 Z1 Zf1 Z2 Zf2 Z3 Zf3 Z4 Zf4 Z5 Zf5 Z6 Zf6 Zl
  have AB := (AB.alloc (.cells #[.int .i64 0, .int .i64 0] 26)).drew
  have ZB := (ZB.alloc (.cells #[.int .i64 0, .int .i64 0] 26)).drew
  have baB := ((Box2.mk ba0 ba1 baf bag bal).alloc (.cells #[.int .i64 0, .int .i64 0] 26)).drew
  have BW := bcall B2 bx s2
  clear ba0 ba1 baf bag bal bb0 bb1 bbf bbg bbl own2 bx
  generalize (w2.alloc (.cells #[.int .i64 0, .int .i64 0] 26)).drew = W at *
  have sW := BW.size
  have hne : w.heap.size ≠ g2 := by omega
  have A0 := AB.c 0 _ rfl
  have Af0 := AB.f 0 (Nat.le_of_ble_eq_true rfl)
  have A1 := AB.c 1 _ rfl
  have Af1 := AB.f 1 (Nat.le_of_ble_eq_true rfl)
  have A2 := AB.c 2 _ rfl
  have Af2 := AB.f 2 (Nat.le_of_ble_eq_true rfl)
  have A3 := AB.c 3 _ rfl
  have Af3 := AB.f 3 (Nat.le_of_ble_eq_true rfl)
  have A4 := AB.c 4 _ rfl
  have Af4 := AB.f 4 (Nat.le_of_ble_eq_true rfl)
  have A5 := AB.c 5 _ rfl
  have Af5 := AB.f 5 (Nat.le_of_ble_eq_true rfl)
  have A6 := AB.c 6 _ rfl
  have Af6 := AB.f 6 (Nat.le_of_ble_eq_true rfl)
  have Al := AB.lt
  repeat (refine wpD_pure rfl rfl ?_; go_big_quiet_step (fail); refine wpQuiet_nil ?_)
  refine wpD_rd [g2] (by kernel_rfl) rfl rfl ?_; go_big_quiet_step (fail); refine wpQuiet_nil ?_
  repeat (refine wpD_pure rfl rfl ?_; go_big_quiet_step (fail); refine wpQuiet_nil ?_)
  refine wpD_rd [] (by kernel_rfl) rfl rfl ?_; go_big_quiet_step (fail); refine wpQuiet_nil ?_
  try simp only [Act.put, List.setIfInBounds_toArray, List.set_cons_zero, List.set_cons_succ]
  refine wpD_app rfl rfl rfl rfl Try.tBytes (Below.refl (w1.heap.size + 2) _) rfl own3 (m := rf.size) (Src.ofString _ Try.underlying9 rf) (by omega) (by omega) (by intro g' h; have h : some g2 = some g' := h; injection h with h; subst h; exact List.mem_singleton.2 rfl) ?_
  intro v3 w3 own4 bel3 h3
  obtain ⟨o3, c3, rfl⟩ := own_slice own4
  have sl3 : Sl w3 o3 (40 + rf.size) c3 1 (byteVals (Pl.msgS (Pl.certNs ⟨n, t, k, rf, o, nw, s⟩) ++ rf.data.toList)) := by
    have := Sl.own own4
    rw [byteVals_append]
    exact this
  clear own3 own4
  have B3 : Below w.heap.size w w3 := BW.trans (bel3.mono (by omega))
  have s3 := B3.size
  clear A0 Af0 A1 Af1 A2 Af2 A3 Af3 A4 Af4 A5 Af5 A6 Af6 Al
  have AB := AB.below bel3 (by omega)
  have ZB := ZB.below bel3 (by omega)
  have baB := baB.below bel3 (by omega)
  try simp only [Act.put, List.setIfInBounds_toArray, List.set_cons_zero, List.set_cons_succ]
  refine wpD_call (f := 48) (args := #[.int .i64 k, .slice o3 (40 + rf.size) c3]) rfl rfl rfl (by simp [go_sem]) ?_
  refine (Sign8 k (Pl.msgS (Pl.certNs ⟨n, t, k, rf, o, nw, s⟩) ++ rf.data.toList) (40 + rf.size) (by rw [List.length_append, HL.out]; rfl) o3 c3 _ sl3 hk (by omega)).mono ?_
  rw [show Pl.signS k (Pl.msgS (Pl.certNs ⟨n, t, k, rf, o, nw, s⟩) ++ rf.data.toList) = SG from hSG.out]
  rintro e w4 ⟨rfl, hb4⟩
  refine ⟨_, rfl, hb4, ?_⟩
  have B4 := bcall B3 hb4 s3
  have s4 := B4.size
  have AB := AB.below hb4 AB.lt
  have ZB := ZB.below hb4 ZB.lt
  have baB := baB.below hb4 baB.lt
  have A0 := AB.c 0 _ rfl
  have Af0 := AB.f 0 (Nat.le_of_ble_eq_true rfl)
  have A1 := AB.c 1 _ rfl
  have Af1 := AB.f 1 (Nat.le_of_ble_eq_true rfl)
  have A2 := AB.c 2 _ rfl
  have Af2 := AB.f 2 (Nat.le_of_ble_eq_true rfl)
  have A3 := AB.c 3 _ rfl
  have Af3 := AB.f 3 (Nat.le_of_ble_eq_true rfl)
  have A4 := AB.c 4 _ rfl
  have Af4 := AB.f 4 (Nat.le_of_ble_eq_true rfl)
  have A5 := AB.c 5 _ rfl
  have Af5 := AB.f 5 (Nat.le_of_ble_eq_true rfl)
  have A6 := AB.c 6 _ rfl
  have Af6 := AB.f 6 (Nat.le_of_ble_eq_true rfl)
  have Al := AB.lt
  try simp only [Act.put, List.setIfInBounds_toArray, List.set_cons_zero, List.set_cons_succ]
  repeat (refine wpD_pure rfl rfl ?_; go_big_quiet_step (fail); refine wpQuiet_nil ?_)
  try simp only [Act.put, List.setIfInBounds_toArray, List.set_cons_zero, List.set_cons_succ]
  refine wpD_st rfl rfl rfl (by simp [go_sem, A6, Af6]; rfl) ((ExtD.refl _ _).setCell (by exact List.mem_singleton.2 rfl) _) ?_
  refine wpD_nil ?_
  have AB5 : Blk (w4.setCell ⟨w.heap.size, 6, none⟩ (.int .i64 SG)) w.heap.size [.int .i64 n, .int .i64 t, .int .i64 k, .string rf, .int .i64 o, .int .i64 nw, .int .i64 SG] := AB.set (k := 6) (Nat.le_of_ble_eq_true rfl) _
  have ZB5 := ZB.far (a := ⟨w.heap.size, 6, none⟩) (by show w.heap.size ≠ w.heap.size + 1; omega) (.int .i64 SG)
  have ba5 := baB.far (a := ⟨w.heap.size, 6, none⟩) (by show w.heap.size ≠ w.heap.size + 2; omega) (.int .i64 SG)
  have B5 : Below w.heap.size w (w4.setCell ⟨w.heap.size, 6, none⟩ (.int .i64 SG)) := B4.setCell (Nat.le_refl _) _
  clear A0 Af0 A1 Af1 A2 Af2 A3 Af3 A4 Af4 A5 Af5 A6 Af6 Al
  clear AB ZB baB hb4 sl3 bel3 h3
  generalize w4.setCell ⟨w.heap.size, 6, none⟩ (.int .i64 SG) = w5 at *
  have AB := AB5
  have ZB := ZB5
  have A0 := AB.c 0 _ rfl
  have Af0 := AB.f 0 (Nat.le_of_ble_eq_true rfl)
  have A1 := AB.c 1 _ rfl
  have Af1 := AB.f 1 (Nat.le_of_ble_eq_true rfl)
  have A2 := AB.c 2 _ rfl
  have Af2 := AB.f 2 (Nat.le_of_ble_eq_true rfl)
  have A3 := AB.c 3 _ rfl
  have Af3 := AB.f 3 (Nat.le_of_ble_eq_true rfl)
  have A4 := AB.c 4 _ rfl
  have Af4 := AB.f 4 (Nat.le_of_ble_eq_true rfl)
  have A5 := AB.c 5 _ rfl
  have Af5 := AB.f 5 (Nat.le_of_ble_eq_true rfl)
  have A6 := AB.c 6 _ rfl
  have Af6 := AB.f 6 (Nat.le_of_ble_eq_true rfl)
  have Al := AB.lt
  have Z0 := ZB.c 0 _ rfl
  have Zf0 := ZB.f 0 (Nat.le_of_ble_eq_true rfl)
  have Z1 := ZB.c 1 _ rfl
  have Zf1 := ZB.f 1 (Nat.le_of_ble_eq_true rfl)
  have Z2 := ZB.c 2 _ rfl
  have Zf2 := ZB.f 2 (Nat.le_of_ble_eq_true rfl)
  have Z3 := ZB.c 3 _ rfl
  have Zf3 := ZB.f 3 (Nat.le_of_ble_eq_true rfl)
  have Z4 := ZB.c 4 _ rfl
  have Zf4 := ZB.f 4 (Nat.le_of_ble_eq_true rfl)
  have Z5 := ZB.c 5 _ rfl
  have Zf5 := ZB.f 5 (Nat.le_of_ble_eq_true rfl)
  have Z6 := ZB.c 6 _ rfl
  have Zf6 := ZB.f 6 (Nat.le_of_ble_eq_true rfl)
  have Zl := ZB.lt
  obtain ⟨ba0, ba1, baf, bag, bal⟩ := ba5
  try simp only [Act.put]
  go_wp2_with fail
  refine bodyPost_ret (v := .tuple #[.agg #[.int .i64 n, .int .i64 t, .int .i64 k, .string rf, .int .i64 o, .int .i64 nw, .int .i64 SG], .agg #[.int .i64 0, .int .i64 0]]) (by simp [results, Try.results22, go_sem, Z0, Z1, Z2, Z3, Z4, Z5, Z6, ba0, ba1]) rfl ⟨rfl, by go_grown⟩
theorem Certify_any (c : Pl.Cert) (w : World) :
    Calls Try.prog 22 #[.agg (certCells c).toArray] w fun e w' => e = .returned (.tuple #[.agg (certCells (Pl.certV c)).toArray, .agg #[.int .i64 (Pl.certF c).1, .int .i64 (Pl.certF c).2]]) ∧ Below w.heap.size w w' := by
  obtain ⟨n, t, k, rf, o, nw, s⟩ := c
  rcases Pl.certF_cases ⟨n, t, k, rf, o, nw, s⟩ with ⟨hF, hB, _, h60⟩ | hF
  · exact Certify_ok n t k rf o nw s w hF hB h60
  · exact Certify_bad n t k rf o nw s w hF
end Go.Proofs.Ytkhkijpkgogncaa
