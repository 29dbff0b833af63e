/- The law PushcertWindowsAreMonotone returns true. -/
import Derived.Test.YtkhkijpkgogncaaUn
namespace Go.Proofs.Ytkhkijpkgogncaa
open Go.RowKit

set_option maxRecDepth 100000 in
set_option maxHeartbeats 2000000 in
theorem PushcertWindowsAreMonotone_bad (secret now window longer : Int) (xs : List Int) (n t ky : Int) (rf : ByteArray) (o nw s : Int) (oa : Option Addr) (cap : Nat) (w : World) (hs : Sl w oa xs.length cap 1 (intVals xs)) (hm : xs.length ≤ 9223372036854775807) (hF : (Pl.pushF secret now window xs ⟨n, t, ky, rf, o, nw, s⟩).1 ≠ 0) : Calls Try.prog 8 #[.int .i64 secret, .int .i64 now, .int .i64 window, .int .i64 longer, .slice oa xs.length cap, .agg (certCells ⟨n, t, ky, rf, o, nw, s⟩).toArray] w fun e w' => e = .returned (.bool true) ∧ Below w.heap.size w w' := by
  unfold certCells
  simp only
  obtain ⟨G, hG⟩ : ∃ G, Pl.pushF secret now window xs ⟨n, t, ky, rf, o, nw, s⟩ = G := ⟨_, rfl⟩
  have HV := Lib.hid (show Pl.pushV secret now window xs ⟨n, t, ky, rf, o, nw, s⟩ = [] by rw [Pl.pushV, if_neg hF])
  rw [hG] at hF
  have HF := Lib.hid hG
  have u1 : (G.1 == 0) = false := by simp [hF]
  have u2 : (G.1 != 0) = true := by simp [hF]
  clear hG hF
  obtain ⟨J, hJ⟩ : ∃ J, Pl.pushF secret now longer xs ⟨n, t, ky, rf, o, nw, s⟩ = J := ⟨_, rfl⟩
  obtain ⟨V2, hV2⟩ : ∃ V, Pl.pushV secret now longer xs ⟨n, t, ky, rf, o, nw, s⟩ = V := ⟨_, rfl⟩
  have HG := Lib.hid hJ
  have HW := Lib.hid hV2
  clear hJ hV2
  go_enter Try.func8, Try.ntmps8
  go_wp2_with fail
  refine (pushes_any _).mono ?_
  rintro e w1 ⟨rfl, hb1⟩
  have B1 : Below w.heap.size w w1 := bcall (by go_grown) hb1 (by go_size)
  have s1 := B1.size
  have q1 : w.heap.size + 1 ≤ w1.heap.size := by have h := hb1.size; first | omega | (simp at h; omega)
  have AB := (Blk.new w [.int .i64 n, .int .i64 t, .int .i64 ky, .string rf, .int .i64 o, .int .i64 nw, .int .i64 s] 23 (g := w.heap.size) (by go_size)).below hb1 (by go_size)
  have A0 := AB.c 0 _ rfl
  have A1 := AB.c 1 _ rfl
  have A2 := AB.c 2 _ rfl
  have A3 := AB.c 3 _ rfl
  have A4 := AB.c 4 _ rfl
  have A5 := AB.c 5 _ rfl
  have A6 := AB.c 6 _ rfl
  have Af0 := AB.f 0 (Nat.le_of_ble_eq_true rfl)
  have Af1 := AB.f 1 (Nat.le_of_ble_eq_true rfl)
  have Af2 := AB.f 2 (Nat.le_of_ble_eq_true rfl)
  have Af3 := AB.f 3 (Nat.le_of_ble_eq_true rfl)
  have Af4 := AB.f 4 (Nat.le_of_ble_eq_true rfl)
  have Af5 := AB.f 5 (Nat.le_of_ble_eq_true rfl)
  have Af6 := AB.f 6 (Nat.le_of_ble_eq_true rfl)
  have Al := AB.lt
  replace hs := (hs.below (by go_grown) (Nat.le_refl _)).below hb1 (Nat.le_refl _)
  clear hb1
  go_wp2_with fail
  refine (Check_any secret now window xs ⟨n, t, ky, rf, o, nw, s⟩ oa cap _ hs hm).mono ?_
  rw [HF.out, HV.out]
  rintro e w2 ⟨o4, k4, rfl, own4, hb2⟩
  clear own4
  simp only [List.length_nil]
  have B2 : Below w.heap.size w w2 := bcall (by go_grown) hb2 (by go_size)
  have s2 := B2.size
  have q2 : w1.heap.size ≤ w2.heap.size := by have h := hb2.size; first | omega | (simp at h; omega)
  clear A0 A1 A2 A3 A4 A5 A6 Af0 Af1 Af2 Af3 Af4 Af5 Af6 Al
  replace AB := AB.below hb2 (by have h := AB.lt; go_size)
  have A0 := AB.c 0 _ rfl
  have A1 := AB.c 1 _ rfl
  have A2 := AB.c 2 _ rfl
  have A3 := AB.c 3 _ rfl
  have A4 := AB.c 4 _ rfl
  have A5 := AB.c 5 _ rfl
  have A6 := AB.c 6 _ rfl
  have Af0 := AB.f 0 (Nat.le_of_ble_eq_true rfl)
  have Af1 := AB.f 1 (Nat.le_of_ble_eq_true rfl)
  have Af2 := AB.f 2 (Nat.le_of_ble_eq_true rfl)
  have Af3 := AB.f 3 (Nat.le_of_ble_eq_true rfl)
  have Af4 := AB.f 4 (Nat.le_of_ble_eq_true rfl)
  have Af5 := AB.f 5 (Nat.le_of_ble_eq_true rfl)
  have Af6 := AB.f 6 (Nat.le_of_ble_eq_true rfl)
  have Al := AB.lt
  replace hs := hs.below hb2 (Nat.le_refl _)
  clear hb2
  go_wp2_with fail
  refine (Check_any secret now longer xs ⟨n, t, ky, rf, o, nw, s⟩ oa cap _ (hs.below (by go_grown) (Nat.le_refl _)) hm).mono ?_
  rw [HG.out, HW.out]
  rintro e w3 ⟨o5, k5, rfl, own5, hb3⟩
  have sl5 := Sl.own own5
  clear own5
  have B3 : Below w.heap.size w w3 := bcall (by go_grown) hb3 (by go_size)
  have s3 := B3.size
  have q3 : w2.heap.size + 1 ≤ w3.heap.size := by have h := hb3.size; first | omega | (simp at h; omega)
  obtain ⟨ba0, ba1, baf, bag, bal⟩ := (Box2.new w2 (.int .i64 G.1) (.int .i64 G.2) 26).below hb3 (by go_size)
  clear A0 A1 A2 A3 A4 A5 A6 Af0 Af1 Af2 Af3 Af4 Af5 Af6 Al
  replace AB := (AB.alloc (.cells #[(.int .i64 G.1), (.int .i64 G.2)] 26)).below hb3 (by have h := AB.lt; go_size)
  have A0 := AB.c 0 _ rfl
  have A1 := AB.c 1 _ rfl
  have A2 := AB.c 2 _ rfl
  have A3 := AB.c 3 _ rfl
  have A4 := AB.c 4 _ rfl
  have A5 := AB.c 5 _ rfl
  have A6 := AB.c 6 _ rfl
  have Af0 := AB.f 0 (Nat.le_of_ble_eq_true rfl)
  have Af1 := AB.f 1 (Nat.le_of_ble_eq_true rfl)
  have Af2 := AB.f 2 (Nat.le_of_ble_eq_true rfl)
  have Af3 := AB.f 3 (Nat.le_of_ble_eq_true rfl)
  have Af4 := AB.f 4 (Nat.le_of_ble_eq_true rfl)
  have Af5 := AB.f 5 (Nat.le_of_ble_eq_true rfl)
  have Af6 := AB.f 6 (Nat.le_of_ble_eq_true rfl)
  have Al := AB.lt
  replace hs := (hs.below (by go_grown) (Nat.le_refl _)).below hb3 (Nat.le_refl _)
  clear hb3
  go_wp2_with (first | (go_at_call 18; refine (lin_any _ _ _ _).mono ?_; rintro e w' ⟨rfl, rfl⟩))
  go_ret
  exact ⟨ret_true (by simp), by go_grown⟩
set_option maxRecDepth 100000 in
set_option maxHeartbeats 2000000 in
theorem PushcertWindowsAreMonotone_in (secret now window longer : Int) (xs : List Int) (n t ky : Int) (rf : ByteArray) (o nw s : Int) (oa : Option Addr) (cap : Nat) (w : World) (hs : Sl w oa xs.length cap 1 (intVals xs)) (hm : xs.length ≤ 9223372036854775807) (hF : (Pl.pushF secret now window xs ⟨n, t, ky, rf, o, nw, s⟩).1 = 0) (h1 : Pl.inB longer window 100000 = false) : Calls Try.prog 8 #[.int .i64 secret, .int .i64 now, .int .i64 window, .int .i64 longer, .slice oa xs.length cap, .agg (certCells ⟨n, t, ky, rf, o, nw, s⟩).toArray] w fun e w' => e = .returned (.bool true) ∧ Below w.heap.size w w' := by
  unfold certCells
  simp only
  obtain ⟨HF, HP⟩ := Pl.pushF_ok hF
  have h40 := HP.hused.len
  replace HF := Lib.hid HF
  have HV := Lib.hid (show Pl.pushV secret now window xs ⟨n, t, ky, rf, o, nw, s⟩ = Pl.insS xs n by rw [Pl.pushV, HF.out]; rfl)
  obtain ⟨J, hJ⟩ : ∃ J, Pl.pushF secret now longer xs ⟨n, t, ky, rf, o, nw, s⟩ = J := ⟨_, rfl⟩
  obtain ⟨V2, hV2⟩ : ∃ V, Pl.pushV secret now longer xs ⟨n, t, ky, rf, o, nw, s⟩ = V := ⟨_, rfl⟩
  have HG := Lib.hid hJ
  have HW := Lib.hid hV2
  clear hJ hV2
  clear HP hF
  have hl := Pl.length_insS xs n
  generalize Pl.insS xs n = LL at *
  have hle : LL.length ≤ 41 := by omega
  clear hl
  go_enter Try.func8, Try.ntmps8
  go_wp2_with fail
  refine (pushes_any _).mono ?_
  rintro e w1 ⟨rfl, hb1⟩
  have B1 : Below w.heap.size w w1 := bcall (by go_grown) hb1 (by go_size)
  have s1 := B1.size
  have q1 : w.heap.size + 1 ≤ w1.heap.size := by have h := hb1.size; first | omega | (simp at h; omega)
  have AB := (Blk.new w [.int .i64 n, .int .i64 t, .int .i64 ky, .string rf, .int .i64 o, .int .i64 nw, .int .i64 s] 23 (g := w.heap.size) (by go_size)).below hb1 (by go_size)
  have A0 := AB.c 0 _ rfl
  have A1 := AB.c 1 _ rfl
  have A2 := AB.c 2 _ rfl
  have A3 := AB.c 3 _ rfl
  have A4 := AB.c 4 _ rfl
  have A5 := AB.c 5 _ rfl
  have A6 := AB.c 6 _ rfl
  have Af0 := AB.f 0 (Nat.le_of_ble_eq_true rfl)
  have Af1 := AB.f 1 (Nat.le_of_ble_eq_true rfl)
  have Af2 := AB.f 2 (Nat.le_of_ble_eq_true rfl)
  have Af3 := AB.f 3 (Nat.le_of_ble_eq_true rfl)
  have Af4 := AB.f 4 (Nat.le_of_ble_eq_true rfl)
  have Af5 := AB.f 5 (Nat.le_of_ble_eq_true rfl)
  have Af6 := AB.f 6 (Nat.le_of_ble_eq_true rfl)
  have Al := AB.lt
  replace hs := (hs.below (by go_grown) (Nat.le_refl _)).below hb1 (Nat.le_refl _)
  clear hb1
  go_wp2_with fail
  refine (Check_any secret now window xs ⟨n, t, ky, rf, o, nw, s⟩ oa cap _ hs hm).mono ?_
  rw [HF.out, HV.out]
  rintro e w2 ⟨o4, k4, rfl, own4, hb2⟩
  have sl4 := Sl.own own4
  clear own4
  have B2 : Below w.heap.size w w2 := bcall (by go_grown) hb2 (by go_size)
  have s2 := B2.size
  have q2 : w1.heap.size ≤ w2.heap.size := by have h := hb2.size; first | omega | (simp at h; omega)
  clear A0 A1 A2 A3 A4 A5 A6 Af0 Af1 Af2 Af3 Af4 Af5 Af6 Al
  replace AB := AB.below hb2 (by have h := AB.lt; go_size)
  have A0 := AB.c 0 _ rfl
  have A1 := AB.c 1 _ rfl
  have A2 := AB.c 2 _ rfl
  have A3 := AB.c 3 _ rfl
  have A4 := AB.c 4 _ rfl
  have A5 := AB.c 5 _ rfl
  have A6 := AB.c 6 _ rfl
  have Af0 := AB.f 0 (Nat.le_of_ble_eq_true rfl)
  have Af1 := AB.f 1 (Nat.le_of_ble_eq_true rfl)
  have Af2 := AB.f 2 (Nat.le_of_ble_eq_true rfl)
  have Af3 := AB.f 3 (Nat.le_of_ble_eq_true rfl)
  have Af4 := AB.f 4 (Nat.le_of_ble_eq_true rfl)
  have Af5 := AB.f 5 (Nat.le_of_ble_eq_true rfl)
  have Af6 := AB.f 6 (Nat.le_of_ble_eq_true rfl)
  have Al := AB.lt
  replace hs := hs.below hb2 (Nat.le_refl _)
  clear hb2
  go_wp2_with fail
  refine (Check_any secret now longer xs ⟨n, t, ky, rf, o, nw, s⟩ oa cap _ (hs.below (by go_grown) (Nat.le_refl _)) hm).mono ?_
  rw [HG.out, HW.out]
  rintro e w3 ⟨o5, k5, rfl, own5, hb3⟩
  have sl5 := Sl.own own5
  clear own5
  have B3 : Below w.heap.size w w3 := bcall (by go_grown) hb3 (by go_size)
  have s3 := B3.size
  have q3 : w2.heap.size + 1 ≤ w3.heap.size := by have h := hb3.size; first | omega | (simp at h; omega)
  obtain ⟨ba0, ba1, baf, bag, bal⟩ := (Box2.new w2 (.int .i64 0) (.int .i64 0) 26).below hb3 (by go_size)
  clear A0 A1 A2 A3 A4 A5 A6 Af0 Af1 Af2 Af3 Af4 Af5 Af6 Al
  replace AB := (AB.alloc (.cells #[(.int .i64 0), (.int .i64 0)] 26)).below hb3 (by have h := AB.lt; go_size)
  have A0 := AB.c 0 _ rfl
  have A1 := AB.c 1 _ rfl
  have A2 := AB.c 2 _ rfl
  have A3 := AB.c 3 _ rfl
  have A4 := AB.c 4 _ rfl
  have A5 := AB.c 5 _ rfl
  have A6 := AB.c 6 _ rfl
  have Af0 := AB.f 0 (Nat.le_of_ble_eq_true rfl)
  have Af1 := AB.f 1 (Nat.le_of_ble_eq_true rfl)
  have Af2 := AB.f 2 (Nat.le_of_ble_eq_true rfl)
  have Af3 := AB.f 3 (Nat.le_of_ble_eq_true rfl)
  have Af4 := AB.f 4 (Nat.le_of_ble_eq_true rfl)
  have Af5 := AB.f 5 (Nat.le_of_ble_eq_true rfl)
  have Af6 := AB.f 6 (Nat.le_of_ble_eq_true rfl)
  have Al := AB.lt
  replace hs := (hs.below (by go_grown) (Nat.le_refl _)).below hb3 (Nat.le_refl _)
  replace sl4 := (sl4.below (by go_grown) (Nat.le_refl _)).below hb3 (Nat.le_refl _)
  clear hb3
  go_wp2_with (first | (go_at_call 18; refine (lin_any _ _ _ _).mono ?_; rintro e w' ⟨rfl, rfl⟩))
  go_ret
  exact ⟨ret_true (by simp), by go_grown⟩
set_option maxRecDepth 100000 in
set_option maxHeartbeats 2000000 in
theorem PushcertWindowsAreMonotone_ok (secret now window longer : Int) (xs : List Int) (n t ky : Int) (rf : ByteArray) (o nw s : Int) (oa : Option Addr) (cap : Nat) (w : World) (hs : Sl w oa xs.length cap 1 (intVals xs)) (hm : xs.length ≤ 9223372036854775807) (hF : (Pl.pushF secret now window xs ⟨n, t, ky, rf, o, nw, s⟩).1 = 0) (h1 : Pl.inB longer window 100000 = true) : Calls Try.prog 8 #[.int .i64 secret, .int .i64 now, .int .i64 window, .int .i64 longer, .slice oa xs.length cap, .agg (certCells ⟨n, t, ky, rf, o, nw, s⟩).toArray] w fun e w' => e = .returned (.bool true) ∧ Below w.heap.size w w' := by
  unfold certCells
  simp only
  obtain ⟨HF, HP⟩ := Pl.pushF_ok hF
  have h40 := HP.hused.len
  replace HF := Lib.hid HF
  have HV := Lib.hid (show Pl.pushV secret now window xs ⟨n, t, ky, rf, o, nw, s⟩ = Pl.insS xs n by rw [Pl.pushV, HF.out]; rfl)
  have HG := Lib.hid (Pl.pushF_of HP.digest (HP.longer h1))
  have HW := Lib.hid (show Pl.pushV secret now longer xs ⟨n, t, ky, rf, o, nw, s⟩ = Pl.insS xs n by rw [Pl.pushV, HG.out]; rfl)
  clear HP hF
  have hl := Pl.length_insS xs n
  generalize Pl.insS xs n = LL at *
  have hle : LL.length ≤ 41 := by omega
  clear hl
  go_enter Try.func8, Try.ntmps8
  go_wp2_with fail
  refine (pushes_any _).mono ?_
  rintro e w1 ⟨rfl, hb1⟩
  have B1 : Below w.heap.size w w1 := bcall (by go_grown) hb1 (by go_size)
  have s1 := B1.size
  have q1 : w.heap.size + 1 ≤ w1.heap.size := by have h := hb1.size; first | omega | (simp at h; omega)
  have AB := (Blk.new w [.int .i64 n, .int .i64 t, .int .i64 ky, .string rf, .int .i64 o, .int .i64 nw, .int .i64 s] 23 (g := w.heap.size) (by go_size)).below hb1 (by go_size)
  have A0 := AB.c 0 _ rfl
  have A1 := AB.c 1 _ rfl
  have A2 := AB.c 2 _ rfl
  have A3 := AB.c 3 _ rfl
  have A4 := AB.c 4 _ rfl
  have A5 := AB.c 5 _ rfl
  have A6 := AB.c 6 _ rfl
  have Af0 := AB.f 0 (Nat.le_of_ble_eq_true rfl)
  have Af1 := AB.f 1 (Nat.le_of_ble_eq_true rfl)
  have Af2 := AB.f 2 (Nat.le_of_ble_eq_true rfl)
  have Af3 := AB.f 3 (Nat.le_of_ble_eq_true rfl)
  have Af4 := AB.f 4 (Nat.le_of_ble_eq_true rfl)
  have Af5 := AB.f 5 (Nat.le_of_ble_eq_true rfl)
  have Af6 := AB.f 6 (Nat.le_of_ble_eq_true rfl)
  have Al := AB.lt
  replace hs := (hs.below (by go_grown) (Nat.le_refl _)).below hb1 (Nat.le_refl _)
  clear hb1
  go_wp2_with fail
  refine (Check_any secret now window xs ⟨n, t, ky, rf, o, nw, s⟩ oa cap _ hs hm).mono ?_
  rw [HF.out, HV.out]
  rintro e w2 ⟨o4, k4, rfl, own4, hb2⟩
  have sl4 := Sl.own own4
  clear own4
  have B2 : Below w.heap.size w w2 := bcall (by go_grown) hb2 (by go_size)
  have s2 := B2.size
  have q2 : w1.heap.size ≤ w2.heap.size := by have h := hb2.size; first | omega | (simp at h; omega)
  clear A0 A1 A2 A3 A4 A5 A6 Af0 Af1 Af2 Af3 Af4 Af5 Af6 Al
  replace AB := AB.below hb2 (by have h := AB.lt; go_size)
  have A0 := AB.c 0 _ rfl
  have A1 := AB.c 1 _ rfl
  have A2 := AB.c 2 _ rfl
  have A3 := AB.c 3 _ rfl
  have A4 := AB.c 4 _ rfl
  have A5 := AB.c 5 _ rfl
  have A6 := AB.c 6 _ rfl
  have Af0 := AB.f 0 (Nat.le_of_ble_eq_true rfl)
  have Af1 := AB.f 1 (Nat.le_of_ble_eq_true rfl)
  have Af2 := AB.f 2 (Nat.le_of_ble_eq_true rfl)
  have Af3 := AB.f 3 (Nat.le_of_ble_eq_true rfl)
  have Af4 := AB.f 4 (Nat.le_of_ble_eq_true rfl)
  have Af5 := AB.f 5 (Nat.le_of_ble_eq_true rfl)
  have Af6 := AB.f 6 (Nat.le_of_ble_eq_true rfl)
  have Al := AB.lt
  replace hs := hs.below hb2 (Nat.le_refl _)
  clear hb2
  go_wp2_with fail
  refine (Check_any secret now longer xs ⟨n, t, ky, rf, o, nw, s⟩ oa cap _ (hs.below (by go_grown) (Nat.le_refl _)) hm).mono ?_
  rw [HG.out, HW.out]
  rintro e w3 ⟨o5, k5, rfl, own5, hb3⟩
  have sl5 := Sl.own own5
  clear own5
  have B3 : Below w.heap.size w w3 := bcall (by go_grown) hb3 (by go_size)
  have s3 := B3.size
  have q3 : w2.heap.size + 1 ≤ w3.heap.size := by have h := hb3.size; first | omega | (simp at h; omega)
  obtain ⟨ba0, ba1, baf, bag, bal⟩ := (Box2.new w2 (.int .i64 0) (.int .i64 0) 26).below hb3 (by go_size)
  clear A0 A1 A2 A3 A4 A5 A6 Af0 Af1 Af2 Af3 Af4 Af5 Af6 Al
  replace AB := (AB.alloc (.cells #[(.int .i64 0), (.int .i64 0)] 26)).below hb3 (by have h := AB.lt; go_size)
  have A0 := AB.c 0 _ rfl
  have A1 := AB.c 1 _ rfl
  have A2 := AB.c 2 _ rfl
  have A3 := AB.c 3 _ rfl
  have A4 := AB.c 4 _ rfl
  have A5 := AB.c 5 _ rfl
  have A6 := AB.c 6 _ rfl
  have Af0 := AB.f 0 (Nat.le_of_ble_eq_true rfl)
  have Af1 := AB.f 1 (Nat.le_of_ble_eq_true rfl)
  have Af2 := AB.f 2 (Nat.le_of_ble_eq_true rfl)
  have Af3 := AB.f 3 (Nat.le_of_ble_eq_true rfl)
  have Af4 := AB.f 4 (Nat.le_of_ble_eq_true rfl)
  have Af5 := AB.f 5 (Nat.le_of_ble_eq_true rfl)
  have Af6 := AB.f 6 (Nat.le_of_ble_eq_true rfl)
  have Al := AB.lt
  replace hs := (hs.below (by go_grown) (Nat.le_refl _)).below hb3 (Nat.le_refl _)
  replace sl4 := (sl4.below (by go_grown) (Nat.le_refl _)).below hb3 (Nat.le_refl _)
  clear hb3
  go_wp2_with (first | (go_at_call 18; refine (lin_any _ _ _ _).mono ?_; rintro e w' ⟨rfl, rfl⟩))
  refine (Ints_any _ _ o4 o5 k4 k5 _ (sl4.below (by go_grown) (Nat.le_refl _)) (sl5.below (by go_grown) (Nat.le_refl _)) (by omega) (by omega)).mono ?_
  rw [decide_eq_true (Eq.refl LL)]
  rintro e w4 ⟨rfl, hb4⟩
  have B4 : Below w.heap.size w w4 := bcall (by go_grown) hb4 (by go_size)
  have s4 := B4.size
  have q4 : w3.heap.size + 1 ≤ w4.heap.size := by have h := hb4.size; first | omega | (simp at h; omega)
  obtain ⟨ba0, ba1, baf, bag, bal⟩ := ((Box2.mk ba0 ba1 baf bag bal).alloc (.cells #[(.int .i64 0), (.int .i64 0)] 26)).below hb4 (by go_size)
  obtain ⟨bb0, bb1, bbf, bbg, bbl⟩ := (Box2.new w3 (.int .i64 0) (.int .i64 0) 26).below hb4 (by go_size)
  clear A0 A1 A2 A3 A4 A5 A6 Af0 Af1 Af2 Af3 Af4 Af5 Af6 Al
  replace AB := (AB.alloc (.cells #[(.int .i64 0), (.int .i64 0)] 26)).below hb4 (by have h := AB.lt; go_size)
  have A0 := AB.c 0 _ rfl
  have A1 := AB.c 1 _ rfl
  have A2 := AB.c 2 _ rfl
  have A3 := AB.c 3 _ rfl
  have A4 := AB.c 4 _ rfl
  have A5 := AB.c 5 _ rfl
  have A6 := AB.c 6 _ rfl
  have Af0 := AB.f 0 (Nat.le_of_ble_eq_true rfl)
  have Af1 := AB.f 1 (Nat.le_of_ble_eq_true rfl)
  have Af2 := AB.f 2 (Nat.le_of_ble_eq_true rfl)
  have Af3 := AB.f 3 (Nat.le_of_ble_eq_true rfl)
  have Af4 := AB.f 4 (Nat.le_of_ble_eq_true rfl)
  have Af5 := AB.f 5 (Nat.le_of_ble_eq_true rfl)
  have Af6 := AB.f 6 (Nat.le_of_ble_eq_true rfl)
  have Al := AB.lt
  replace sl4 := (sl4.below (by go_grown) (Nat.le_refl _)).below hb4 (Nat.le_refl _)
  replace sl5 := (sl5.below (by go_grown) (Nat.le_refl _)).below hb4 (Nat.le_refl _)
  clear hb4
  go_wp2_with fail
  go_ret
  exact ⟨ret_true (by simp), by go_grown⟩
theorem PushcertWindowsAreMonotone_main (secret now window longer : Int) (xs : List Int) (c : Pl.Cert) (oa : Option Addr) (cap : Nat) (w : World) (hs : Sl w oa xs.length cap 1 (intVals xs)) (hm : xs.length ≤ 9223372036854775807) :
    Calls Try.prog 8 #[.int .i64 secret, .int .i64 now, .int .i64 window, .int .i64 longer, .slice oa xs.length cap, .agg (certCells c).toArray] w fun e w' => e = .returned (.bool true) ∧ Below w.heap.size w w' := by
  obtain ⟨n, t, ky, rf, o, nw, s⟩ := c
  by_cases hF : (Pl.pushF secret now window xs ⟨n, t, ky, rf, o, nw, s⟩).1 = 0
  · cases h1 : Pl.inB longer window 100000 with
    | false => exact PushcertWindowsAreMonotone_in secret now window longer xs n t ky rf o nw s oa cap w hs hm hF h1
    | true => exact PushcertWindowsAreMonotone_ok secret now window longer xs n t ky rf o nw s oa cap w hs hm hF h1
  · exact PushcertWindowsAreMonotone_bad secret now window longer xs n t ky rf o nw s oa cap w hs hm hF
end Go.Proofs.Ytkhkijpkgogncaa
