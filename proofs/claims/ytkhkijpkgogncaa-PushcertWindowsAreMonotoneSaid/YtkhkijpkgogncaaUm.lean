/- Contracts: the closed example of package pushcert holds. -/
import Derived.Test.YtkhkijpkgogncaaUl
import Derived.Test.YtkhkijpkgogncaaWg
import Derived.Test.YtkhkijpkgogncaaWh
import Derived.Test.YtkhkijpkgogncaaWj
namespace Go.Proofs.Ytkhkijpkgogncaa
open Go.RowKit

namespace Pl
def n9 : Int := nonceS 9 100
def c9 : Cert := ⟨n9, 100, 5, ⟨#[109, 97, 105, 110]⟩, 1, 2, 0⟩
def s9 : Int := certS c9
def d9 : Cert := ⟨n9, 100, 5, ⟨#[109, 97, 105, 110]⟩, 1, 2, s9⟩
end Pl
theorem nonce9_any (w : World) : Calls Try.prog 43 #[.int .i64 9, .int .i64 100] w fun e w' => e = .returned (.int .i64 Pl.n9) ∧ Below w.heap.size w w' := by
  have HF := Lib.hid (show Pl.nonceF 9 100 = (0, 0) by decide +kernel)
  have HV := Lib.hid (show Pl.nonceV 9 100 = Pl.n9 by rw [Pl.nonceV, HF.out]; rfl)
  generalize Pl.n9 = N9 at *
  go_enter Try.func43, Try.ntmps43
  go_wp2_with fail
  refine (Nonce_any 9 100 _).mono ?_
  rw [HF.out, HV.out]
  rintro e w1 ⟨rfl, hb1⟩
  have B1 : Below w.heap.size w w1 := bcall (by go_grown) hb1 (by go_size)
  have s1 := B1.size
  have q1 : w.heap.size ≤ w1.heap.size := by have h := hb1.size; first | omega | (simp at h; omega)
  clear hb1
  go_wp2_with fail
  go_ret
  exact ⟨rfl, by go_grown⟩
theorem cert9_any (w : World) : Calls Try.prog 41 #[] w fun e w' => e = .returned (.agg (certCells Pl.c9).toArray) ∧ Below w.heap.size w w' := by
  unfold certCells Pl.c9
  simp only
  have H := nonce9_any
  generalize Pl.n9 = N9 at *
  go_enter Try.func41, Try.ntmps41
  go_wp2_with fail
  refine (H _).mono ?_
  rintro e w1 ⟨rfl, hb1⟩
  have B1 : Below w.heap.size w w1 := bcall (by go_grown) hb1 (by go_size)
  have s1 := B1.size
  have q1 : w.heap.size + 1 ≤ w1.heap.size := by have h := hb1.size; first | omega | (simp at h; omega)
  have ZB := (Blk.new w [.int .i64 0, .int .i64 0, .int .i64 0, .string ⟨#[]⟩, .int .i64 0, .int .i64 0, .int .i64 0] 23 (g := w.heap.size) (by go_size)).below hb1 (by go_size)
  have Z0 := ZB.c 0 _ rfl
  have Z1 := ZB.c 1 _ rfl
  have Z2 := ZB.c 2 _ rfl
  have Z3 := ZB.c 3 _ rfl
  have Z4 := ZB.c 4 _ rfl
  have Z5 := ZB.c 5 _ rfl
  have Z6 := ZB.c 6 _ rfl
  have Zf0 := ZB.f 0 (Nat.le_of_ble_eq_true rfl)
  have Zf1 := ZB.f 1 (Nat.le_of_ble_eq_true rfl)
  have Zf2 := ZB.f 2 (Nat.le_of_ble_eq_true rfl)
  have Zf3 := ZB.f 3 (Nat.le_of_ble_eq_true rfl)
  have Zf4 := ZB.f 4 (Nat.le_of_ble_eq_true rfl)
  have Zf5 := ZB.f 5 (Nat.le_of_ble_eq_true rfl)
  have Zf6 := ZB.f 6 (Nat.le_of_ble_eq_true rfl)
  have Zl := ZB.lt
  clear hb1
  go_wp2_with fail
  have B6 : Below w.heap.size w (((((((w1.setCell ⟨w.heap.size, 0, none⟩ (.int .i64 N9)).setCell ⟨w.heap.size, 1, none⟩ (.int .i64 100)).setCell ⟨w.heap.size, 2, none⟩ (.int .i64 5)).setCell ⟨w.heap.size, 3, none⟩ (.string ⟨#[109, 97, 105, 110]⟩)).setCell ⟨w.heap.size, 4, none⟩ (.int .i64 1)).setCell ⟨w.heap.size, 5, none⟩ (.int .i64 2)).setCell ⟨w.heap.size, 6, none⟩ (.int .i64 0)) := by go_grown
  have CB := ((((((ZB.set (k := 0) (by decide) (.int .i64 N9)).set (k := 1) (Nat.le_of_ble_eq_true rfl) (.int .i64 100)).set (k := 2) (Nat.le_of_ble_eq_true rfl) (.int .i64 5)).set (k := 3) (Nat.le_of_ble_eq_true rfl) (.string ⟨#[109, 97, 105, 110]⟩)).set (k := 4) (Nat.le_of_ble_eq_true rfl) (.int .i64 1)).set (k := 5) (Nat.le_of_ble_eq_true rfl) (.int .i64 2)).set (k := 6) (Nat.le_of_ble_eq_true rfl) (.int .i64 0)
  simp only [List.set_cons_zero, List.set_cons_succ] at CB
  generalize (((((((w1.setCell ⟨w.heap.size, 0, none⟩ (.int .i64 N9)).setCell ⟨w.heap.size, 1, none⟩ (.int .i64 100)).setCell ⟨w.heap.size, 2, none⟩ (.int .i64 5)).setCell ⟨w.heap.size, 3, none⟩ (.string ⟨#[109, 97, 105, 110]⟩)).setCell ⟨w.heap.size, 4, none⟩ (.int .i64 1)).setCell ⟨w.heap.size, 5, none⟩ (.int .i64 2)).setCell ⟨w.heap.size, 6, none⟩ (.int .i64 0)) = W at *
  have C0 := CB.c 0 _ rfl
  have C1 := CB.c 1 _ rfl
  have C2 := CB.c 2 _ rfl
  have C3 := CB.c 3 _ rfl
  have C4 := CB.c 4 _ rfl
  have C5 := CB.c 5 _ rfl
  have C6 := CB.c 6 _ rfl
  refine bodyPost_ret (v := .agg #[.int .i64 N9, .int .i64 100, .int .i64 5, .string ⟨#[109, 97, 105, 110]⟩, .int .i64 1, .int .i64 2, .int .i64 0]) (by simp [results, Try.results41, go_sem, C0, C1, C2, C3, C4, C5, C6]) rfl ⟨rfl, B6⟩
set_option maxRecDepth 100000 in
set_option maxHeartbeats 4000000 in
theorem pushes_any (w : World) : Calls Try.prog 15 #[] w fun e w' => e = .returned (.bool true) ∧ Below w.heap.size w w' := by
  have A0 := Lib.hid (show Pl.certF Pl.c9 = (0, 0) by decide +kernel)
  have A1 := Lib.hid (show Pl.certV Pl.c9 = Pl.d9 by rw [Pl.certV, A0.out]; rfl)
  have A2 := Lib.hid (show Pl.pushF 9 105 10 [] Pl.d9 = (0, 0) by decide +kernel)
  have A3 := Lib.hid (show Pl.pushV 9 105 10 [] Pl.d9 = [Pl.n9] by rw [Pl.pushV, A2.out]; rfl)
  have A4 := Lib.hid (show Pl.pushF 9 105 10 [Pl.n9] Pl.d9 = (7, 0) by decide +kernel)
  have A5 := Lib.hid (show Pl.pushV 9 105 10 [Pl.n9] Pl.d9 = [] by rw [Pl.pushV, A4.out]; rfl)
  have A6 := Lib.hid (show Pl.pushF 9 111 10 [] Pl.d9 = (16, 0) by decide +kernel)
  have A7 := Lib.hid (show Pl.pushV 9 111 10 [] Pl.d9 = [] by rw [Pl.pushV, A6.out]; rfl)
  have A8 := Lib.hid (show Pl.certF Pl.Cert.zero = (3, 0) by decide +kernel)
  have u9 : decide ((0 : Int) ≤ Pl.n9) = true := by decide +kernel
  have H1 := Lib.hid Check_any
  have H2 := Lib.hid cert9_any
  have H3 := Lib.hid Certify_any
  have H4 := Lib.hid nonce9_any
  obtain ⟨D9, hD⟩ : ∃ x, Pl.d9 = x := ⟨_, rfl⟩
  rw [hD] at A1 A2 A3 A4 A5 A6 A7
  have hD2 : D9 = ⟨Pl.n9, 100, 5, ⟨#[109, 97, 105, 110]⟩, 1, 2, Pl.s9⟩ := by rw [← hD]; rfl
  clear hD
  generalize Pl.c9 = C9 at *
  generalize Pl.n9 = N9 at *
  generalize Pl.s9 = S9 at *
  subst hD2
  go_enter Try.func15, Try.ntmps15
  go_wp2_with fail
  refine (H2.out _).mono ?_
  rintro e w1 ⟨rfl, hb1⟩
  have B1 : Below w.heap.size w w1 := bcall (by go_grown) hb1 (by go_size)
  have s1 := B1.size
  have q1 : w.heap.size ≤ w1.heap.size := by have h := hb1.size; first | omega | (simp at h; omega)
  clear hb1
  go_wp2_with fail
  refine (H3.out C9 _).mono ?_
  rw [A1.out, A0.out]
  rintro e w2 ⟨rfl, hb2⟩
  unfold certCells
  simp only
  have B2 : Below w.heap.size w w2 := bcall (by go_grown) hb2 (by go_size)
  have s2 := B2.size
  have q2 : w1.heap.size ≤ w2.heap.size := by have h := hb2.size; first | omega | (simp at h; omega)
  clear hb2
  go_wp2_with fail
  refine (H1.out 9 105 10 [] ⟨N9, 100, 5, ⟨#[109, 97, 105, 110]⟩, 1, 2, S9⟩ none 0 _ (Sl.nil _ _) (by decide)).mono ?_
  rw [A2.out, A3.out]
  rintro e w3 ⟨o3, k3, rfl, own3, hb3⟩
  have sl3 := Sl.own own3
  clear own3
  simp only [List.length_singleton] at sl3 ⊢
  have B3 : Below w.heap.size w w3 := bcall (by go_grown) hb3 (by go_size)
  have s3 := B3.size
  have q3 : w2.heap.size + 2 ≤ w3.heap.size := by have h := hb3.size; first | omega | (simp at h; omega)
  have bah := (Box2.new (w2.alloc (.cells #[.int .i64 N9, .int .i64 100, .int .i64 5, .string ⟨#[109, 97, 105, 110]⟩, .int .i64 1, .int .i64 2, .int .i64 S9] 23)) (.int .i64 0) (.int .i64 0) 26).below hb3 (by go_size)
  simp only [World.size_alloc] at bah
  obtain ⟨ba0, ba1, baf, bag, bal⟩ := bah
  have CB := ((Blk.new w2 [.int .i64 N9, .int .i64 100, .int .i64 5, .string ⟨#[109, 97, 105, 110]⟩, .int .i64 1, .int .i64 2, .int .i64 S9] 23 (g := w2.heap.size) (by go_size)).alloc (.cells #[(.int .i64 0), (.int .i64 0)] 26)).below hb3 (by go_size)
  have C0 := CB.c 0 _ rfl
  have C1 := CB.c 1 _ rfl
  have C2 := CB.c 2 _ rfl
  have C3 := CB.c 3 _ rfl
  have C4 := CB.c 4 _ rfl
  have C5 := CB.c 5 _ rfl
  have C6 := CB.c 6 _ rfl
  have Cf0 := CB.f 0 (Nat.le_of_ble_eq_true rfl)
  have Cf1 := CB.f 1 (Nat.le_of_ble_eq_true rfl)
  have Cf2 := CB.f 2 (Nat.le_of_ble_eq_true rfl)
  have Cf3 := CB.f 3 (Nat.le_of_ble_eq_true rfl)
  have Cf4 := CB.f 4 (Nat.le_of_ble_eq_true rfl)
  have Cf5 := CB.f 5 (Nat.le_of_ble_eq_true rfl)
  have Cf6 := CB.f 6 (Nat.le_of_ble_eq_true rfl)
  have Cl := CB.lt
  clear hb3
  go_wp2_with fail
  refine (H1.out 9 105 10 [N9] ⟨N9, 100, 5, ⟨#[109, 97, 105, 110]⟩, 1, 2, S9⟩ o3 k3 _ (sl3.below (by go_grown) (Nat.le_refl _)) (by simp)).mono ?_
  rw [A4.out, A5.out]
  rintro e w4 ⟨o4, k4, rfl, own4, hb4⟩
  clear own4
  simp only [List.length_nil]
  have B4 : Below w.heap.size w w4 := bcall (by go_grown) hb4 (by go_size)
  have s4 := B4.size
  have q4 : w3.heap.size + 1 ≤ w4.heap.size := by have h := hb4.size; first | omega | (simp at h; omega)
  obtain ⟨ba0, ba1, baf, bag, bal⟩ := ((Box2.mk ba0 ba1 baf bag bal).alloc (.cells #[(.int .i64 0), (.int .i64 0)] 26)).below hb4 (by go_size)
  obtain ⟨bb0, bb1, bbf, bbg, bbl⟩ := (Box2.new w3 (.int .i64 0) (.int .i64 0) 26).below hb4 (by go_size)
  clear C0 C1 C2 C3 C4 C5 C6 Cf0 Cf1 Cf2 Cf3 Cf4 Cf5 Cf6 Cl
  replace CB := (CB.alloc (.cells #[(.int .i64 0), (.int .i64 0)] 26)).below hb4 (by have h := CB.lt; go_size)
  have C0 := CB.c 0 _ rfl
  have C1 := CB.c 1 _ rfl
  have C2 := CB.c 2 _ rfl
  have C3 := CB.c 3 _ rfl
  have C4 := CB.c 4 _ rfl
  have C5 := CB.c 5 _ rfl
  have C6 := CB.c 6 _ rfl
  have Cf0 := CB.f 0 (Nat.le_of_ble_eq_true rfl)
  have Cf1 := CB.f 1 (Nat.le_of_ble_eq_true rfl)
  have Cf2 := CB.f 2 (Nat.le_of_ble_eq_true rfl)
  have Cf3 := CB.f 3 (Nat.le_of_ble_eq_true rfl)
  have Cf4 := CB.f 4 (Nat.le_of_ble_eq_true rfl)
  have Cf5 := CB.f 5 (Nat.le_of_ble_eq_true rfl)
  have Cf6 := CB.f 6 (Nat.le_of_ble_eq_true rfl)
  have Cl := CB.lt
  replace sl3 := (sl3.below (by go_grown) (Nat.le_refl _)).below hb4 (Nat.le_refl _)
  clear hb4
  go_wp2_with fail
  refine (H1.out 9 111 10 [] ⟨N9, 100, 5, ⟨#[109, 97, 105, 110]⟩, 1, 2, S9⟩ none 0 _ (Sl.nil _ _) (by decide)).mono ?_
  rw [A6.out, A7.out]
  rintro e w5 ⟨o5, k5, rfl, own5, hb5⟩
  clear own5
  simp only [List.length_nil]
  have B5 : Below w.heap.size w w5 := bcall (by go_grown) hb5 (by go_size)
  have s5 := B5.size
  have q5 : w4.heap.size + 1 ≤ w5.heap.size := by have h := hb5.size; first | omega | (simp at h; omega)
  obtain ⟨ba0, ba1, baf, bag, bal⟩ := ((Box2.mk ba0 ba1 baf bag bal).alloc (.cells #[(.int .i64 7), (.int .i64 0)] 26)).below hb5 (by go_size)
  obtain ⟨bb0, bb1, bbf, bbg, bbl⟩ := ((Box2.mk bb0 bb1 bbf bbg bbl).alloc (.cells #[(.int .i64 7), (.int .i64 0)] 26)).below hb5 (by go_size)
  obtain ⟨bc0, bc1, bcf, bcg, bcl⟩ := (Box2.new w4 (.int .i64 7) (.int .i64 0) 26).below hb5 (by go_size)
  clear C0 C1 C2 C3 C4 C5 C6 Cf0 Cf1 Cf2 Cf3 Cf4 Cf5 Cf6 Cl
  replace CB := (CB.alloc (.cells #[(.int .i64 7), (.int .i64 0)] 26)).below hb5 (by have h := CB.lt; go_size)
  have C0 := CB.c 0 _ rfl
  have C1 := CB.c 1 _ rfl
  have C2 := CB.c 2 _ rfl
  have C3 := CB.c 3 _ rfl
  have C4 := CB.c 4 _ rfl
  have C5 := CB.c 5 _ rfl
  have C6 := CB.c 6 _ rfl
  have Cf0 := CB.f 0 (Nat.le_of_ble_eq_true rfl)
  have Cf1 := CB.f 1 (Nat.le_of_ble_eq_true rfl)
  have Cf2 := CB.f 2 (Nat.le_of_ble_eq_true rfl)
  have Cf3 := CB.f 3 (Nat.le_of_ble_eq_true rfl)
  have Cf4 := CB.f 4 (Nat.le_of_ble_eq_true rfl)
  have Cf5 := CB.f 5 (Nat.le_of_ble_eq_true rfl)
  have Cf6 := CB.f 6 (Nat.le_of_ble_eq_true rfl)
  have Cl := CB.lt
  replace sl3 := (sl3.below (by go_grown) (Nat.le_refl _)).below hb5 (Nat.le_refl _)
  clear hb5
  go_wp2_with fail
  refine wp_region_ord [0, 1, 2, 3, 4, 5, 6, 7, 8, 9, 10, 11, 12, 13, 14, 15, 16, 17, 18, 19, 20, 21, 22, 23, 24, 25, 26, 27, 28, 29, 30, 31, 32, 33, 34, 35, 36] (by kernel_rfl) (by kernel_rfl) ?_
  repeat (refine wpI_rd rfl rfl ?_; go_big_quiet_step (fail); refine wpQuiet_nil ?_)
  refine wpI_call (f := 42) (args := #[]) rfl rfl rfl (by simp [go_sem]) ?_
  refine (signs_any _).mono ?_
  rintro e w6 ⟨rfl, hb6⟩
  refine ⟨_, rfl, hb6, ?_⟩
  have B6 : Below w.heap.size w w6 := bcall (by go_grown) hb6 (by go_size)
  have s6 := B6.size
  have q6 : w5.heap.size + 1 ≤ w6.heap.size := by have h := hb6.size; first | omega | (simp at h; omega)
  obtain ⟨ba0, ba1, baf, bag, bal⟩ := ((Box2.mk ba0 ba1 baf bag bal).alloc (.cells #[(.int .i64 16), (.int .i64 0)] 26)).drew.below hb6 (by go_size)
  obtain ⟨bb0, bb1, bbf, bbg, bbl⟩ := ((Box2.mk bb0 bb1 bbf bbg bbl).alloc (.cells #[(.int .i64 16), (.int .i64 0)] 26)).drew.below hb6 (by go_size)
  obtain ⟨bc0, bc1, bcf, bcg, bcl⟩ := ((Box2.mk bc0 bc1 bcf bcg bcl).alloc (.cells #[(.int .i64 16), (.int .i64 0)] 26)).drew.below hb6 (by go_size)
  obtain ⟨bd0, bd1, bdf, bdg, bdl⟩ := (Box2.new w5 (.int .i64 16) (.int .i64 0) 26).drew.below hb6 (by go_size)
  clear C0 C1 C2 C3 C4 C5 C6 Cf0 Cf1 Cf2 Cf3 Cf4 Cf5 Cf6 Cl
  replace CB := (CB.alloc (.cells #[(.int .i64 16), (.int .i64 0)] 26)).drew.below hb6 (by have h := CB.lt; go_size)
  have C0 := CB.c 0 _ rfl
  have C1 := CB.c 1 _ rfl
  have C2 := CB.c 2 _ rfl
  have C3 := CB.c 3 _ rfl
  have C4 := CB.c 4 _ rfl
  have C5 := CB.c 5 _ rfl
  have C6 := CB.c 6 _ rfl
  have Cf0 := CB.f 0 (Nat.le_of_ble_eq_true rfl)
  have Cf1 := CB.f 1 (Nat.le_of_ble_eq_true rfl)
  have Cf2 := CB.f 2 (Nat.le_of_ble_eq_true rfl)
  have Cf3 := CB.f 3 (Nat.le_of_ble_eq_true rfl)
  have Cf4 := CB.f 4 (Nat.le_of_ble_eq_true rfl)
  have Cf5 := CB.f 5 (Nat.le_of_ble_eq_true rfl)
  have Cf6 := CB.f 6 (Nat.le_of_ble_eq_true rfl)
  have Cl := CB.lt
  replace sl3 := (sl3.below (by go_grown) (Nat.le_refl _)).below hb6 (Nat.le_refl _)
  clear hb6
  try simp only [Act.put, List.setIfInBounds_toArray, List.set_cons_zero, List.set_cons_succ]
  repeat (refine wpI_rd rfl rfl ?_; go_big_quiet_step (fail); refine wpQuiet_nil ?_)
  refine wpI_call (f := 43) (args := #[.int .i64 9, .int .i64 100]) rfl rfl rfl (by simp [go_sem]) ?_
  refine (H4.out _).mono ?_
  rintro e w7 ⟨rfl, hb7⟩
  refine ⟨_, rfl, hb7, ?_⟩
  have B7 : Below w.heap.size w w7 := bcall (by go_grown) hb7 (by go_size)
  have s7 := B7.size
  have q7 : w6.heap.size ≤ w7.heap.size := by have h := hb7.size; first | omega | (simp at h; omega)
  obtain ⟨ba0, ba1, baf, bag, bal⟩ := (Box2.mk ba0 ba1 baf bag bal).below hb7 (by go_size)
  obtain ⟨bb0, bb1, bbf, bbg, bbl⟩ := (Box2.mk bb0 bb1 bbf bbg bbl).below hb7 (by go_size)
  obtain ⟨bc0, bc1, bcf, bcg, bcl⟩ := (Box2.mk bc0 bc1 bcf bcg bcl).below hb7 (by go_size)
  obtain ⟨bd0, bd1, bdf, bdg, bdl⟩ := (Box2.mk bd0 bd1 bdf bdg bdl).below hb7 (by go_size)
  clear C0 C1 C2 C3 C4 C5 C6 Cf0 Cf1 Cf2 Cf3 Cf4 Cf5 Cf6 Cl
  replace CB := CB.below hb7 (by have h := CB.lt; go_size)
  have C0 := CB.c 0 _ rfl
  have C1 := CB.c 1 _ rfl
  have C2 := CB.c 2 _ rfl
  have C3 := CB.c 3 _ rfl
  have C4 := CB.c 4 _ rfl
  have C5 := CB.c 5 _ rfl
  have C6 := CB.c 6 _ rfl
  have Cf0 := CB.f 0 (Nat.le_of_ble_eq_true rfl)
  have Cf1 := CB.f 1 (Nat.le_of_ble_eq_true rfl)
  have Cf2 := CB.f 2 (Nat.le_of_ble_eq_true rfl)
  have Cf3 := CB.f 3 (Nat.le_of_ble_eq_true rfl)
  have Cf4 := CB.f 4 (Nat.le_of_ble_eq_true rfl)
  have Cf5 := CB.f 5 (Nat.le_of_ble_eq_true rfl)
  have Cf6 := CB.f 6 (Nat.le_of_ble_eq_true rfl)
  have Cl := CB.lt
  replace sl3 := sl3.below hb7 (Nat.le_refl _)
  clear hb7
  try simp only [Act.put, List.setIfInBounds_toArray, List.set_cons_zero, List.set_cons_succ]
  repeat (refine wpI_rd rfl rfl ?_; go_big_quiet_step (fail); refine wpQuiet_nil ?_)
  refine wpI_call (f := 17) (args := #[.int .i64 7, .int .i64 0]) rfl rfl rfl (by simp [go_sem]) ?_
  refine (fault_any _ _ _).mono ?_
  rintro e w8 ⟨rfl, hb8⟩
  refine ⟨_, rfl, hb8, ?_⟩
  have B8 : Below w.heap.size w w8 := bcall (by go_grown) hb8 (by go_size)
  have s8 := B8.size
  have q8 : w7.heap.size ≤ w8.heap.size := by have h := hb8.size; first | omega | (simp at h; omega)
  obtain ⟨ba0, ba1, baf, bag, bal⟩ := (Box2.mk ba0 ba1 baf bag bal).below hb8 (by go_size)
  obtain ⟨bb0, bb1, bbf, bbg, bbl⟩ := (Box2.mk bb0 bb1 bbf bbg bbl).below hb8 (by go_size)
  obtain ⟨bc0, bc1, bcf, bcg, bcl⟩ := (Box2.mk bc0 bc1 bcf bcg bcl).below hb8 (by go_size)
  obtain ⟨bd0, bd1, bdf, bdg, bdl⟩ := (Box2.mk bd0 bd1 bdf bdg bdl).below hb8 (by go_size)
  clear C0 C1 C2 C3 C4 C5 C6 Cf0 Cf1 Cf2 Cf3 Cf4 Cf5 Cf6 Cl
  replace CB := CB.below hb8 (by have h := CB.lt; go_size)
  have C0 := CB.c 0 _ rfl
  have C1 := CB.c 1 _ rfl
  have C2 := CB.c 2 _ rfl
  have C3 := CB.c 3 _ rfl
  have C4 := CB.c 4 _ rfl
  have C5 := CB.c 5 _ rfl
  have C6 := CB.c 6 _ rfl
  have Cf0 := CB.f 0 (Nat.le_of_ble_eq_true rfl)
  have Cf1 := CB.f 1 (Nat.le_of_ble_eq_true rfl)
  have Cf2 := CB.f 2 (Nat.le_of_ble_eq_true rfl)
  have Cf3 := CB.f 3 (Nat.le_of_ble_eq_true rfl)
  have Cf4 := CB.f 4 (Nat.le_of_ble_eq_true rfl)
  have Cf5 := CB.f 5 (Nat.le_of_ble_eq_true rfl)
  have Cf6 := CB.f 6 (Nat.le_of_ble_eq_true rfl)
  have Cl := CB.lt
  replace sl3 := sl3.below hb8 (Nat.le_refl _)
  clear hb8
  try simp only [Act.put, List.setIfInBounds_toArray, List.set_cons_zero, List.set_cons_succ]
  repeat (refine wpI_rd rfl rfl ?_; go_big_quiet_step (fail); refine wpQuiet_nil ?_)
  refine wpI_call (f := 17) (args := #[.int .i64 16, .int .i64 0]) rfl rfl rfl (by simp [go_sem]) ?_
  refine (fault_any _ _ _).mono ?_
  rintro e w9 ⟨rfl, hb9⟩
  refine ⟨_, rfl, hb9, ?_⟩
  have B9 : Below w.heap.size w w9 := bcall (by go_grown) hb9 (by go_size)
  have s9 := B9.size
  have q9 : w8.heap.size ≤ w9.heap.size := by have h := hb9.size; first | omega | (simp at h; omega)
  obtain ⟨ba0, ba1, baf, bag, bal⟩ := (Box2.mk ba0 ba1 baf bag bal).below hb9 (by go_size)
  obtain ⟨bb0, bb1, bbf, bbg, bbl⟩ := (Box2.mk bb0 bb1 bbf bbg bbl).below hb9 (by go_size)
  obtain ⟨bc0, bc1, bcf, bcg, bcl⟩ := (Box2.mk bc0 bc1 bcf bcg bcl).below hb9 (by go_size)
  obtain ⟨bd0, bd1, bdf, bdg, bdl⟩ := (Box2.mk bd0 bd1 bdf bdg bdl).below hb9 (by go_size)
  clear C0 C1 C2 C3 C4 C5 C6 Cf0 Cf1 Cf2 Cf3 Cf4 Cf5 Cf6 Cl
  replace CB := CB.below hb9 (by have h := CB.lt; go_size)
  have C0 := CB.c 0 _ rfl
  have C1 := CB.c 1 _ rfl
  have C2 := CB.c 2 _ rfl
  have C3 := CB.c 3 _ rfl
  have C4 := CB.c 4 _ rfl
  have C5 := CB.c 5 _ rfl
  have C6 := CB.c 6 _ rfl
  have Cf0 := CB.f 0 (Nat.le_of_ble_eq_true rfl)
  have Cf1 := CB.f 1 (Nat.le_of_ble_eq_true rfl)
  have Cf2 := CB.f 2 (Nat.le_of_ble_eq_true rfl)
  have Cf3 := CB.f 3 (Nat.le_of_ble_eq_true rfl)
  have Cf4 := CB.f 4 (Nat.le_of_ble_eq_true rfl)
  have Cf5 := CB.f 5 (Nat.le_of_ble_eq_true rfl)
  have Cf6 := CB.f 6 (Nat.le_of_ble_eq_true rfl)
  have Cl := CB.lt
  replace sl3 := sl3.below hb9 (Nat.le_refl _)
  clear hb9
  try simp only [Act.put, List.setIfInBounds_toArray, List.set_cons_zero, List.set_cons_succ]
  repeat (refine wpI_rd rfl rfl ?_; go_big_quiet_step (fail); refine wpQuiet_nil ?_)
  refine wpI_call (f := 23) (args := #[.agg #[.int .i64 0, .int .i64 0, .int .i64 0, .string ⟨#[]⟩, .int .i64 0, .int .i64 0, .int .i64 0]]) rfl rfl rfl (by simp [go_sem]) ?_
  refine (certValidate_any Pl.Cert.zero _).mono ?_
  rw [A8.out]
  rintro e w10 ⟨rfl, hb10⟩
  refine ⟨_, rfl, hb10, ?_⟩
  have B10 : Below w.heap.size w w10 := bcall (by go_grown) hb10 (by go_size)
  have s10 := B10.size
  have q10 : w9.heap.size ≤ w10.heap.size := by have h := hb10.size; first | omega | (simp at h; omega)
  obtain ⟨ba0, ba1, baf, bag, bal⟩ := (Box2.mk ba0 ba1 baf bag bal).below hb10 (by go_size)
  obtain ⟨bb0, bb1, bbf, bbg, bbl⟩ := (Box2.mk bb0 bb1 bbf bbg bbl).below hb10 (by go_size)
  obtain ⟨bc0, bc1, bcf, bcg, bcl⟩ := (Box2.mk bc0 bc1 bcf bcg bcl).below hb10 (by go_size)
  obtain ⟨bd0, bd1, bdf, bdg, bdl⟩ := (Box2.mk bd0 bd1 bdf bdg bdl).below hb10 (by go_size)
  clear C0 C1 C2 C3 C4 C5 C6 Cf0 Cf1 Cf2 Cf3 Cf4 Cf5 Cf6 Cl
  replace CB := CB.below hb10 (by have h := CB.lt; go_size)
  have C0 := CB.c 0 _ rfl
  have C1 := CB.c 1 _ rfl
  have C2 := CB.c 2 _ rfl
  have C3 := CB.c 3 _ rfl
  have C4 := CB.c 4 _ rfl
  have C5 := CB.c 5 _ rfl
  have C6 := CB.c 6 _ rfl
  have Cf0 := CB.f 0 (Nat.le_of_ble_eq_true rfl)
  have Cf1 := CB.f 1 (Nat.le_of_ble_eq_true rfl)
  have Cf2 := CB.f 2 (Nat.le_of_ble_eq_true rfl)
  have Cf3 := CB.f 3 (Nat.le_of_ble_eq_true rfl)
  have Cf4 := CB.f 4 (Nat.le_of_ble_eq_true rfl)
  have Cf5 := CB.f 5 (Nat.le_of_ble_eq_true rfl)
  have Cf6 := CB.f 6 (Nat.le_of_ble_eq_true rfl)
  have Cl := CB.lt
  replace sl3 := sl3.below hb10 (Nat.le_refl _)
  clear hb10
  try simp only [Act.put, List.setIfInBounds_toArray, List.set_cons_zero, List.set_cons_succ]
  repeat (refine wpI_rd rfl rfl ?_; go_big_quiet_step (fail); refine wpQuiet_nil ?_)
  refine wpI_call (f := 17) (args := #[.int .i64 3, .int .i64 0]) rfl rfl rfl (by simp [go_sem]) ?_
  refine (fault_any _ _ _).mono ?_
  rintro e w11 ⟨rfl, hb11⟩
  refine ⟨_, rfl, hb11, ?_⟩
  have B11 : Below w.heap.size w w11 := bcall (by go_grown) hb11 (by go_size)
  have s11 := B11.size
  have q11 : w10.heap.size ≤ w11.heap.size := by have h := hb11.size; first | omega | (simp at h; omega)
  obtain ⟨ba0, ba1, baf, bag, bal⟩ := (Box2.mk ba0 ba1 baf bag bal).below hb11 (by go_size)
  obtain ⟨bb0, bb1, bbf, bbg, bbl⟩ := (Box2.mk bb0 bb1 bbf bbg bbl).below hb11 (by go_size)
  obtain ⟨bc0, bc1, bcf, bcg, bcl⟩ := (Box2.mk bc0 bc1 bcf bcg bcl).below hb11 (by go_size)
  obtain ⟨bd0, bd1, bdf, bdg, bdl⟩ := (Box2.mk bd0 bd1 bdf bdg bdl).below hb11 (by go_size)
  clear C0 C1 C2 C3 C4 C5 C6 Cf0 Cf1 Cf2 Cf3 Cf4 Cf5 Cf6 Cl
  replace CB := CB.below hb11 (by have h := CB.lt; go_size)
  have C0 := CB.c 0 _ rfl
  have C1 := CB.c 1 _ rfl
  have C2 := CB.c 2 _ rfl
  have C3 := CB.c 3 _ rfl
  have C4 := CB.c 4 _ rfl
  have C5 := CB.c 5 _ rfl
  have C6 := CB.c 6 _ rfl
  have Cf0 := CB.f 0 (Nat.le_of_ble_eq_true rfl)
  have Cf1 := CB.f 1 (Nat.le_of_ble_eq_true rfl)
  have Cf2 := CB.f 2 (Nat.le_of_ble_eq_true rfl)
  have Cf3 := CB.f 3 (Nat.le_of_ble_eq_true rfl)
  have Cf4 := CB.f 4 (Nat.le_of_ble_eq_true rfl)
  have Cf5 := CB.f 5 (Nat.le_of_ble_eq_true rfl)
  have Cf6 := CB.f 6 (Nat.le_of_ble_eq_true rfl)
  have Cl := CB.lt
  replace sl3 := sl3.below hb11 (Nat.le_refl _)
  clear hb11
  try simp only [Act.put, List.setIfInBounds_toArray, List.set_cons_zero, List.set_cons_succ]
  repeat (refine wpI_rd rfl rfl ?_; go_big_quiet_step (fail); refine wpQuiet_nil ?_)
  refine wpI_nil ?_
  try simp only [Act.put, List.setIfInBounds_toArray, List.set_cons_zero, List.set_cons_succ]
  go_wp2_with fail
  go_ret
  exact ⟨ret_true (by simp), by go_grown⟩
end Go.Proofs.Ytkhkijpkgogncaa
