/- The law PushcertReplayIsRefused returns true. -/
import Derived.Test.YtkhkijpkgogncaaUn
import Derived.Test.YtkhkijpkgogncaaKf
namespace Go.Proofs.Ytkhkijpkgogncaa
open Go.RowKit

/-- A value of a certain form. -/
def Hold.p (P : Value → Prop) : Hold := ⟨fun u _ => P u, fun _ _ _ h _ => h⟩
set_option maxRecDepth 100000 in
set_option maxHeartbeats 2000000 in
theorem PushcertReplayIsRefused_bad (secret now window : Int) (xs : List Int) (n t ky : Int) (rf : ByteArray) (o nw s other : Int) (oa : Option Addr) (cap : Nat) (w : World) (hs : Sl w oa xs.length cap 1 (intVals xs)) (hm : xs.length ≤ 9223372036854775807) (hF : (Pl.pushF secret now window xs ⟨n, t, ky, rf, o, nw, s⟩).1 ≠ 0) : Calls Try.prog 6 #[.int .i64 secret, .int .i64 now, .int .i64 window, .slice oa xs.length cap, .agg (certCells ⟨n, t, ky, rf, o, nw, s⟩).toArray, .int .i64 other] w fun e w' => e = .returned (.bool true) ∧ Below w.heap.size w w' := by
  unfold certCells
  simp only
  obtain ⟨G, hG⟩ : ∃ G, Pl.pushF secret now window xs ⟨n, t, ky, rf, o, nw, s⟩ = G := ⟨_, rfl⟩
  have HV := Lib.hid (show Pl.pushV secret now window xs ⟨n, t, ky, rf, o, nw, s⟩ = [] by rw [Pl.pushV, if_neg hF])
  rw [hG] at hF
  have HF := Lib.hid hG
  have u1 : (G.1 == 0) = false := by simp [hF]
  have u2 : (G.1 != 0) = true := by simp [hF]
  clear hG hF
  go_enter Try.func6, Try.ntmps6
  go_wp2_with fail
  refine (pushes_any _).mono ?_
  rintro e w1 ⟨rfl, hb1⟩
  have B1 : Below w.heap.size w w1 := bcall (by go_grown) hb1 (by go_size)
  have s1 := B1.size
  have q1 : w.heap.size + 1 ≤ w1.heap.size := by have h := hb1.size; first | omega | (simp at h; omega)
  have AB := (Blk.new w [.int .i64 n, .int .i64 t, .int .i64 ky, .string rf, .int .i64 o, .int .i64 nw, .int .i64 s] 23 (g := w.heap.size) (by go_size)).below hb1 (by go_size)
  have A0 := AB.c 0 _ rfl
  have A1 := AB.c 1 _ rfl
  have A2 := AB.c 2 _ rfl
  have A3 := AB.c 3 _ rfl
  have A4 := AB.c 4 _ rfl
  have A5 := AB.c 5 _ rfl
  have A6 := AB.c 6 _ rfl
  have Af0 := AB.f 0 (Nat.le_of_ble_eq_true rfl)
  have Af1 := AB.f 1 (Nat.le_of_ble_eq_true rfl)
  have Af2 := AB.f 2 (Nat.le_of_ble_eq_true rfl)
  have Af3 := AB.f 3 (Nat.le_of_ble_eq_true rfl)
  have Af4 := AB.f 4 (Nat.le_of_ble_eq_true rfl)
  have Af5 := AB.f 5 (Nat.le_of_ble_eq_true rfl)
  have Af6 := AB.f 6 (Nat.le_of_ble_eq_true rfl)
  have Al := AB.lt
  replace hs := (hs.below (by go_grown) (Nat.le_refl _)).below hb1 (Nat.le_refl _)
  clear hb1
  go_wp2_with fail
  refine (Check_any secret now window xs ⟨n, t, ky, rf, o, nw, s⟩ oa cap _ hs hm).mono ?_
  rw [HF.out, HV.out]
  rintro e w2 ⟨o4, k4, rfl, own4, hb2⟩
  clear own4
  simp only [List.length_nil]
  have B2 : Below w.heap.size w w2 := bcall (by go_grown) hb2 (by go_size)
  have s2 := B2.size
  have q2 : w1.heap.size ≤ w2.heap.size := by have h := hb2.size; first | omega | (simp at h; omega)
  clear A0 A1 A2 A3 A4 A5 A6 Af0 Af1 Af2 Af3 Af4 Af5 Af6 Al
  replace AB := AB.below hb2 (by have h := AB.lt; go_size)
  have A0 := AB.c 0 _ rfl
  have A1 := AB.c 1 _ rfl
  have A2 := AB.c 2 _ rfl
  have A3 := AB.c 3 _ rfl
  have A4 := AB.c 4 _ rfl
  have A5 := AB.c 5 _ rfl
  have A6 := AB.c 6 _ rfl
  have Af0 := AB.f 0 (Nat.le_of_ble_eq_true rfl)
  have Af1 := AB.f 1 (Nat.le_of_ble_eq_true rfl)
  have Af2 := AB.f 2 (Nat.le_of_ble_eq_true rfl)
  have Af3 := AB.f 3 (Nat.le_of_ble_eq_true rfl)
  have Af4 := AB.f 4 (Nat.le_of_ble_eq_true rfl)
  have Af5 := AB.f 5 (Nat.le_of_ble_eq_true rfl)
  have Af6 := AB.f 6 (Nat.le_of_ble_eq_true rfl)
  have Al := AB.lt
  replace hs := hs.below hb2 (Nat.le_refl _)
  clear hb2
  go_wp2_with fail
  go_ret
  exact ⟨ret_true (by simp), by go_grown⟩
set_option maxRecDepth 100000 in
set_option maxHeartbeats 2000000 in
theorem PushcertReplayIsRefused_nod (secret now window : Int) (xs : List Int) (n t ky : Int) (rf : ByteArray) (o nw s other : Int) (oa : Option Addr) (cap : Nat) (w : World) (hs : Sl w oa xs.length cap 1 (intVals xs)) (hm : xs.length ≤ 9223372036854775807) (hF : (Pl.pushF secret now window xs ⟨n, t, ky, rf, o, nw, s⟩).1 = 0) (h1 : Pl.isDigestB other = false) : Calls Try.prog 6 #[.int .i64 secret, .int .i64 now, .int .i64 window, .slice oa xs.length cap, .agg (certCells ⟨n, t, ky, rf, o, nw, s⟩).toArray, .int .i64 other] w fun e w' => e = .returned (.bool true) ∧ Below w.heap.size w w' := by
  unfold certCells
  simp only
  obtain ⟨HF, HP⟩ := Pl.pushF_ok hF
  have h40 := HP.hused.len
  have hne := HP.room
  replace HF := Lib.hid HF
  have HV := Lib.hid (show Pl.pushV secret now window xs ⟨n, t, ky, rf, o, nw, s⟩ = Pl.insS xs n by rw [Pl.pushV, HF.out]; rfl)
  have HQ := Pl.pushF_used HP HP.next (Pl.mem_insS.2 (.inl rfl))
  have HQV : Pl.pushV secret now window (Pl.insS xs n) ⟨n, t, ky, rf, o, nw, s⟩ = [] := by rw [Pl.pushV, HQ]; rfl
  have hlen := Pl.length_insS xs n
  
  clear HP hF
  simp only at HQ HQV
  generalize Pl.insS xs n = LL at *
  replace HQ := Lib.hid HQ
  replace HQV := Lib.hid HQV
  
  have hle : LL.length ≤ 40 := by omega
  clear hlen
  go_enter Try.func6, Try.ntmps6
  go_wp2_with fail
  refine (pushes_any _).mono ?_
  rintro e w1 ⟨rfl, hb1⟩
  have B1 : Below w.heap.size w w1 := bcall (by go_grown) hb1 (by go_size)
  have s1 := B1.size
  have q1 : w.heap.size + 1 ≤ w1.heap.size := by have h := hb1.size; first | omega | (simp at h; omega)
  have AB := (Blk.new w [.int .i64 n, .int .i64 t, .int .i64 ky, .string rf, .int .i64 o, .int .i64 nw, .int .i64 s] 23 (g := w.heap.size) (by go_size)).below hb1 (by go_size)
  have A0 := AB.c 0 _ rfl
  have A1 := AB.c 1 _ rfl
  have A2 := AB.c 2 _ rfl
  have A3 := AB.c 3 _ rfl
  have A4 := AB.c 4 _ rfl
  have A5 := AB.c 5 _ rfl
  have A6 := AB.c 6 _ rfl
  have Af0 := AB.f 0 (Nat.le_of_ble_eq_true rfl)
  have Af1 := AB.f 1 (Nat.le_of_ble_eq_true rfl)
  have Af2 := AB.f 2 (Nat.le_of_ble_eq_true rfl)
  have Af3 := AB.f 3 (Nat.le_of_ble_eq_true rfl)
  have Af4 := AB.f 4 (Nat.le_of_ble_eq_true rfl)
  have Af5 := AB.f 5 (Nat.le_of_ble_eq_true rfl)
  have Af6 := AB.f 6 (Nat.le_of_ble_eq_true rfl)
  have Al := AB.lt
  replace hs := (hs.below (by go_grown) (Nat.le_refl _)).below hb1 (Nat.le_refl _)
  clear hb1
  go_wp2_with fail
  refine (Check_any secret now window xs ⟨n, t, ky, rf, o, nw, s⟩ oa cap _ hs hm).mono ?_
  rw [HF.out, HV.out]
  rintro e w2 ⟨o4, k4, rfl, own4, hb2⟩
  have sl4 := Sl.own own4
  clear own4
  have B2 : Below w.heap.size w w2 := bcall (by go_grown) hb2 (by go_size)
  have s2 := B2.size
  have q2 : w1.heap.size ≤ w2.heap.size := by have h := hb2.size; first | omega | (simp at h; omega)
  clear A0 A1 A2 A3 A4 A5 A6 Af0 Af1 Af2 Af3 Af4 Af5 Af6 Al
  replace AB := AB.below hb2 (by have h := AB.lt; go_size)
  have A0 := AB.c 0 _ rfl
  have A1 := AB.c 1 _ rfl
  have A2 := AB.c 2 _ rfl
  have A3 := AB.c 3 _ rfl
  have A4 := AB.c 4 _ rfl
  have A5 := AB.c 5 _ rfl
  have A6 := AB.c 6 _ rfl
  have Af0 := AB.f 0 (Nat.le_of_ble_eq_true rfl)
  have Af1 := AB.f 1 (Nat.le_of_ble_eq_true rfl)
  have Af2 := AB.f 2 (Nat.le_of_ble_eq_true rfl)
  have Af3 := AB.f 3 (Nat.le_of_ble_eq_true rfl)
  have Af4 := AB.f 4 (Nat.le_of_ble_eq_true rfl)
  have Af5 := AB.f 5 (Nat.le_of_ble_eq_true rfl)
  have Af6 := AB.f 6 (Nat.le_of_ble_eq_true rfl)
  have Al := AB.lt
  replace hs := hs.below hb2 (Nat.le_refl _)
  clear hb2
  go_wp2_with fail
  clear hs
  refine (Check_any secret now window LL ⟨n, t, ky, rf, o, nw, s⟩ o4 k4 _ (sl4.below (by go_grown) (Nat.le_refl _)) (by omega)).mono ?_
  rw [HQ.out, HQV.out]
  rintro e w3 ⟨o5, k5, rfl, own5, hb3⟩
  clear own5
  simp only [List.length_nil]
  have B3 : Below w.heap.size w w3 := bcall (by go_grown) hb3 (by go_size)
  have s3 := B3.size
  have q3 : w2.heap.size + 1 ≤ w3.heap.size := by have h := hb3.size; first | omega | (simp at h; omega)
  obtain ⟨ba0, ba1, baf, bag, bal⟩ := (Box2.new w2 (.int .i64 0) (.int .i64 0) 26).below hb3 (by go_size)
  clear A0 A1 A2 A3 A4 A5 A6 Af0 Af1 Af2 Af3 Af4 Af5 Af6 Al
  replace AB := (AB.alloc (.cells #[(.int .i64 0), (.int .i64 0)] 26)).below hb3 (by have h := AB.lt; go_size)
  have A0 := AB.c 0 _ rfl
  have A1 := AB.c 1 _ rfl
  have A2 := AB.c 2 _ rfl
  have A3 := AB.c 3 _ rfl
  have A4 := AB.c 4 _ rfl
  have A5 := AB.c 5 _ rfl
  have A6 := AB.c 6 _ rfl
  have Af0 := AB.f 0 (Nat.le_of_ble_eq_true rfl)
  have Af1 := AB.f 1 (Nat.le_of_ble_eq_true rfl)
  have Af2 := AB.f 2 (Nat.le_of_ble_eq_true rfl)
  have Af3 := AB.f 3 (Nat.le_of_ble_eq_true rfl)
  have Af4 := AB.f 4 (Nat.le_of_ble_eq_true rfl)
  have Af5 := AB.f 5 (Nat.le_of_ble_eq_true rfl)
  have Af6 := AB.f 6 (Nat.le_of_ble_eq_true rfl)
  have Al := AB.lt
  replace sl4 := (sl4.below (by go_grown) (Nat.le_refl _)).below hb3 (Nat.le_refl _)
  clear hb3
  go_wp2_with (first | (go_at_call 29; refine (rIsDigest_any _ _).mono ?_; rintro e w' ⟨rfl, rfl⟩) | (go_at_call 30; refine (Has_any LL other o4 k4 _ (sl4.below (by go_grown) (Nat.le_refl _)) (by omega)).mono ?_; rintro e w' ⟨rfl, rfl⟩))
  refine wp_region_ord [0, 1, 2, 3] (by kernel_rfl) (by kernel_rfl) ?_
  repeat (refine wpI_rd rfl rfl ?_; go_big_quiet_step (fail); refine wpQuiet_nil ?_)
  refine wpI_call (f := 17) (args := #[.int .i64 7, .int .i64 0]) rfl rfl rfl (by simp [go_sem]) ?_
  refine (fault_any _ _ _).mono ?_
  rintro e w4 ⟨rfl, hb4⟩
  refine ⟨_, rfl, hb4, ?_⟩
  have B4 : Below w.heap.size w w4 := bcall (by go_grown) hb4 (by go_size)
  have s4 := B4.size
  have q4 : w3.heap.size + 1 ≤ w4.heap.size := by have h := hb4.size; first | omega | (simp at h; omega)
  obtain ⟨ba0, ba1, baf, bag, bal⟩ := ((Box2.mk ba0 ba1 baf bag bal).alloc (.cells #[(.int .i64 7), (.int .i64 0)] 26)).drew.below hb4 (by go_size)
  obtain ⟨bb0, bb1, bbf, bbg, bbl⟩ := (Box2.new w3 (.int .i64 7) (.int .i64 0) 26).drew.below hb4 (by go_size)
  clear A0 A1 A2 A3 A4 A5 A6 Af0 Af1 Af2 Af3 Af4 Af5 Af6 Al
  replace AB := (AB.alloc (.cells #[(.int .i64 7), (.int .i64 0)] 26)).drew.below hb4 (by have h := AB.lt; go_size)
  have A0 := AB.c 0 _ rfl
  have A1 := AB.c 1 _ rfl
  have A2 := AB.c 2 _ rfl
  have A3 := AB.c 3 _ rfl
  have A4 := AB.c 4 _ rfl
  have A5 := AB.c 5 _ rfl
  have A6 := AB.c 6 _ rfl
  have Af0 := AB.f 0 (Nat.le_of_ble_eq_true rfl)
  have Af1 := AB.f 1 (Nat.le_of_ble_eq_true rfl)
  have Af2 := AB.f 2 (Nat.le_of_ble_eq_true rfl)
  have Af3 := AB.f 3 (Nat.le_of_ble_eq_true rfl)
  have Af4 := AB.f 4 (Nat.le_of_ble_eq_true rfl)
  have Af5 := AB.f 5 (Nat.le_of_ble_eq_true rfl)
  have Af6 := AB.f 6 (Nat.le_of_ble_eq_true rfl)
  have Al := AB.lt
  replace sl4 := (sl4.below (by go_grown) (Nat.le_refl _)).below hb4 (Nat.le_refl _)
  clear hb4
  try simp only [Act.put, List.setIfInBounds_toArray, List.set_cons_zero, List.set_cons_succ]
  repeat (refine wpI_rd rfl rfl ?_; go_big_quiet_step (fail); refine wpQuiet_nil ?_)
  refine wpI_nil ?_
  try simp only [Act.put, List.setIfInBounds_toArray, List.set_cons_zero, List.set_cons_succ]
  go_wp2_with fail
  go_ret
  exact ⟨ret_true (by simp), by go_grown⟩
set_option maxRecDepth 100000 in
set_option maxHeartbeats 2000000 in
theorem PushcertReplayIsRefused_in (secret now window : Int) (xs : List Int) (n t ky : Int) (rf : ByteArray) (o nw s other : Int) (oa : Option Addr) (cap : Nat) (w : World) (hs : Sl w oa xs.length cap 1 (intVals xs)) (hm : xs.length ≤ 9223372036854775807) (hF : (Pl.pushF secret now window xs ⟨n, t, ky, rf, o, nw, s⟩).1 = 0) (h1 : Pl.isDigestB other = true) (h2 : other ∈ Pl.insS xs n) : Calls Try.prog 6 #[.int .i64 secret, .int .i64 now, .int .i64 window, .slice oa xs.length cap, .agg (certCells ⟨n, t, ky, rf, o, nw, s⟩).toArray, .int .i64 other] w fun e w' => e = .returned (.bool true) ∧ Below w.heap.size w w' := by
  unfold certCells
  simp only
  obtain ⟨HF, HP⟩ := Pl.pushF_ok hF
  have h40 := HP.hused.len
  have hne := HP.room
  replace HF := Lib.hid HF
  have HV := Lib.hid (show Pl.pushV secret now window xs ⟨n, t, ky, rf, o, nw, s⟩ = Pl.insS xs n by rw [Pl.pushV, HF.out]; rfl)
  have HQ := Pl.pushF_used HP HP.next (Pl.mem_insS.2 (.inl rfl))
  have HQV : Pl.pushV secret now window (Pl.insS xs n) ⟨n, t, ky, rf, o, nw, s⟩ = [] := by rw [Pl.pushV, HQ]; rfl
  have hlen := Pl.length_insS xs n
  
  clear HP hF
  simp only at HQ HQV
  generalize Pl.insS xs n = LL at *
  replace HQ := Lib.hid HQ
  replace HQV := Lib.hid HQV
  have u5 : decide (other ∈ LL) = true := by simpa using h2
  clear h2
  have hle : LL.length ≤ 40 := by omega
  clear hlen
  go_enter Try.func6, Try.ntmps6
  go_wp2_with fail
  refine (pushes_any _).mono ?_
  rintro e w1 ⟨rfl, hb1⟩
  have B1 : Below w.heap.size w w1 := bcall (by go_grown) hb1 (by go_size)
  have s1 := B1.size
  have q1 : w.heap.size + 1 ≤ w1.heap.size := by have h := hb1.size; first | omega | (simp at h; omega)
  have AB := (Blk.new w [.int .i64 n, .int .i64 t, .int .i64 ky, .string rf, .int .i64 o, .int .i64 nw, .int .i64 s] 23 (g := w.heap.size) (by go_size)).below hb1 (by go_size)
  have A0 := AB.c 0 _ rfl
  have A1 := AB.c 1 _ rfl
  have A2 := AB.c 2 _ rfl
  have A3 := AB.c 3 _ rfl
  have A4 := AB.c 4 _ rfl
  have A5 := AB.c 5 _ rfl
  have A6 := AB.c 6 _ rfl
  have Af0 := AB.f 0 (Nat.le_of_ble_eq_true rfl)
  have Af1 := AB.f 1 (Nat.le_of_ble_eq_true rfl)
  have Af2 := AB.f 2 (Nat.le_of_ble_eq_true rfl)
  have Af3 := AB.f 3 (Nat.le_of_ble_eq_true rfl)
  have Af4 := AB.f 4 (Nat.le_of_ble_eq_true rfl)
  have Af5 := AB.f 5 (Nat.le_of_ble_eq_true rfl)
  have Af6 := AB.f 6 (Nat.le_of_ble_eq_true rfl)
  have Al := AB.lt
  replace hs := (hs.below (by go_grown) (Nat.le_refl _)).below hb1 (Nat.le_refl _)
  clear hb1
  go_wp2_with fail
  refine (Check_any secret now window xs ⟨n, t, ky, rf, o, nw, s⟩ oa cap _ hs hm).mono ?_
  rw [HF.out, HV.out]
  rintro e w2 ⟨o4, k4, rfl, own4, hb2⟩
  have sl4 := Sl.own own4
  clear own4
  have B2 : Below w.heap.size w w2 := bcall (by go_grown) hb2 (by go_size)
  have s2 := B2.size
  have q2 : w1.heap.size ≤ w2.heap.size := by have h := hb2.size; first | omega | (simp at h; omega)
  clear A0 A1 A2 A3 A4 A5 A6 Af0 Af1 Af2 Af3 Af4 Af5 Af6 Al
  replace AB := AB.below hb2 (by have h := AB.lt; go_size)
  have A0 := AB.c 0 _ rfl
  have A1 := AB.c 1 _ rfl
  have A2 := AB.c 2 _ rfl
  have A3 := AB.c 3 _ rfl
  have A4 := AB.c 4 _ rfl
  have A5 := AB.c 5 _ rfl
  have A6 := AB.c 6 _ rfl
  have Af0 := AB.f 0 (Nat.le_of_ble_eq_true rfl)
  have Af1 := AB.f 1 (Nat.le_of_ble_eq_true rfl)
  have Af2 := AB.f 2 (Nat.le_of_ble_eq_true rfl)
  have Af3 := AB.f 3 (Nat.le_of_ble_eq_true rfl)
  have Af4 := AB.f 4 (Nat.le_of_ble_eq_true rfl)
  have Af5 := AB.f 5 (Nat.le_of_ble_eq_true rfl)
  have Af6 := AB.f 6 (Nat.le_of_ble_eq_true rfl)
  have Al := AB.lt
  replace hs := hs.below hb2 (Nat.le_refl _)
  clear hb2
  go_wp2_with fail
  clear hs
  refine (Check_any secret now window LL ⟨n, t, ky, rf, o, nw, s⟩ o4 k4 _ (sl4.below (by go_grown) (Nat.le_refl _)) (by omega)).mono ?_
  rw [HQ.out, HQV.out]
  rintro e w3 ⟨o5, k5, rfl, own5, hb3⟩
  clear own5
  simp only [List.length_nil]
  have B3 : Below w.heap.size w w3 := bcall (by go_grown) hb3 (by go_size)
  have s3 := B3.size
  have q3 : w2.heap.size + 1 ≤ w3.heap.size := by have h := hb3.size; first | omega | (simp at h; omega)
  obtain ⟨ba0, ba1, baf, bag, bal⟩ := (Box2.new w2 (.int .i64 0) (.int .i64 0) 26).below hb3 (by go_size)
  clear A0 A1 A2 A3 A4 A5 A6 Af0 Af1 Af2 Af3 Af4 Af5 Af6 Al
  replace AB := (AB.alloc (.cells #[(.int .i64 0), (.int .i64 0)] 26)).below hb3 (by have h := AB.lt; go_size)
  have A0 := AB.c 0 _ rfl
  have A1 := AB.c 1 _ rfl
  have A2 := AB.c 2 _ rfl
  have A3 := AB.c 3 _ rfl
  have A4 := AB.c 4 _ rfl
  have A5 := AB.c 5 _ rfl
  have A6 := AB.c 6 _ rfl
  have Af0 := AB.f 0 (Nat.le_of_ble_eq_true rfl)
  have Af1 := AB.f 1 (Nat.le_of_ble_eq_true rfl)
  have Af2 := AB.f 2 (Nat.le_of_ble_eq_true rfl)
  have Af3 := AB.f 3 (Nat.le_of_ble_eq_true rfl)
  have Af4 := AB.f 4 (Nat.le_of_ble_eq_true rfl)
  have Af5 := AB.f 5 (Nat.le_of_ble_eq_true rfl)
  have Af6 := AB.f 6 (Nat.le_of_ble_eq_true rfl)
  have Al := AB.lt
  replace sl4 := (sl4.below (by go_grown) (Nat.le_refl _)).below hb3 (Nat.le_refl _)
  clear hb3
  go_wp2_with (first | (go_at_call 29; refine (rIsDigest_any _ _).mono ?_; rintro e w' ⟨rfl, rfl⟩) | (go_at_call 30; refine (Has_any LL other o4 k4 _ (sl4.below (by go_grown) (Nat.le_refl _)) (by omega)).mono ?_; rintro e w' ⟨rfl, rfl⟩))
  refine wp_region_ord [0, 1, 2, 3] (by kernel_rfl) (by kernel_rfl) ?_
  repeat (refine wpI_rd rfl rfl ?_; go_big_quiet_step (fail); refine wpQuiet_nil ?_)
  refine wpI_call (f := 17) (args := #[.int .i64 7, .int .i64 0]) rfl rfl rfl (by simp [go_sem]) ?_
  refine (fault_any _ _ _).mono ?_
  rintro e w4 ⟨rfl, hb4⟩
  refine ⟨_, rfl, hb4, ?_⟩
  have B4 : Below w.heap.size w w4 := bcall (by go_grown) hb4 (by go_size)
  have s4 := B4.size
  have q4 : w3.heap.size + 1 ≤ w4.heap.size := by have h := hb4.size; first | omega | (simp at h; omega)
  obtain ⟨ba0, ba1, baf, bag, bal⟩ := ((Box2.mk ba0 ba1 baf bag bal).alloc (.cells #[(.int .i64 7), (.int .i64 0)] 26)).drew.below hb4 (by go_size)
  obtain ⟨bb0, bb1, bbf, bbg, bbl⟩ := (Box2.new w3 (.int .i64 7) (.int .i64 0) 26).drew.below hb4 (by go_size)
  clear A0 A1 A2 A3 A4 A5 A6 Af0 Af1 Af2 Af3 Af4 Af5 Af6 Al
  replace AB := (AB.alloc (.cells #[(.int .i64 7), (.int .i64 0)] 26)).drew.below hb4 (by have h := AB.lt; go_size)
  have A0 := AB.c 0 _ rfl
  have A1 := AB.c 1 _ rfl
  have A2 := AB.c 2 _ rfl
  have A3 := AB.c 3 _ rfl
  have A4 := AB.c 4 _ rfl
  have A5 := AB.c 5 _ rfl
  have A6 := AB.c 6 _ rfl
  have Af0 := AB.f 0 (Nat.le_of_ble_eq_true rfl)
  have Af1 := AB.f 1 (Nat.le_of_ble_eq_true rfl)
  have Af2 := AB.f 2 (Nat.le_of_ble_eq_true rfl)
  have Af3 := AB.f 3 (Nat.le_of_ble_eq_true rfl)
  have Af4 := AB.f 4 (Nat.le_of_ble_eq_true rfl)
  have Af5 := AB.f 5 (Nat.le_of_ble_eq_true rfl)
  have Af6 := AB.f 6 (Nat.le_of_ble_eq_true rfl)
  have Al := AB.lt
  replace sl4 := (sl4.below (by go_grown) (Nat.le_refl _)).below hb4 (Nat.le_refl _)
  clear hb4
  try simp only [Act.put, List.setIfInBounds_toArray, List.set_cons_zero, List.set_cons_succ]
  repeat (refine wpI_rd rfl rfl ?_; go_big_quiet_step (fail); refine wpQuiet_nil ?_)
  refine wpI_nil ?_
  try simp only [Act.put, List.setIfInBounds_toArray, List.set_cons_zero, List.set_cons_succ]
  go_wp2_with fail
  go_ret
  exact ⟨ret_true (by simp), by go_grown⟩
set_option maxRecDepth 100000 in
set_option maxHeartbeats 2000000 in
theorem PushcertReplayIsRefused_full (secret now window : Int) (xs : List Int) (n t ky : Int) (rf : ByteArray) (o nw s other : Int) (oa : Option Addr) (cap : Nat) (w : World) (hs : Sl w oa xs.length cap 1 (intVals xs)) (hm : xs.length ≤ 9223372036854775807) (hF : (Pl.pushF secret now window xs ⟨n, t, ky, rf, o, nw, s⟩).1 = 0) (h1 : Pl.isDigestB other = true) (h2 : other ∉ Pl.insS xs n) (h3 : xs.length = 39) : Calls Try.prog 6 #[.int .i64 secret, .int .i64 now, .int .i64 window, .slice oa xs.length cap, .agg (certCells ⟨n, t, ky, rf, o, nw, s⟩).toArray, .int .i64 other] w fun e w' => e = .returned (.bool true) ∧ Below w.heap.size w w' := by
  unfold certCells
  simp only
  obtain ⟨HF, HP⟩ := Pl.pushF_ok hF
  have h40 := HP.hused.len
  have hne := HP.room
  replace HF := Lib.hid HF
  have HV := Lib.hid (show Pl.pushV secret now window xs ⟨n, t, ky, rf, o, nw, s⟩ = Pl.insS xs n by rw [Pl.pushV, HF.out]; rfl)
  have HQ := Pl.pushF_used HP HP.next (Pl.mem_insS.2 (.inl rfl))
  have HQV : Pl.pushV secret now window (Pl.insS xs n) ⟨n, t, ky, rf, o, nw, s⟩ = [] := by rw [Pl.pushV, HQ]; rfl
  have hlen := Pl.length_insS xs n
  
  clear HP hF
  simp only at HQ HQV
  generalize Pl.insS xs n = LL at *
  replace HQ := Lib.hid HQ
  replace HQV := Lib.hid HQV
  have u5 : decide (other ∈ LL) = false := by simpa using h2
  clear h2
  have u6 : decide (39 < LL.length) = true := by simp; omega
  have u6' : decide ((39 : Int) < (LL.length : Int)) = true := by simp; omega
  have hle : LL.length ≤ 40 := by omega
  clear hlen h3
  go_enter Try.func6, Try.ntmps6
  go_wp2_with fail
  refine (pushes_any _).mono ?_
  rintro e w1 ⟨rfl, hb1⟩
  have B1 : Below w.heap.size w w1 := bcall (by go_grown) hb1 (by go_size)
  have s1 := B1.size
  have q1 : w.heap.size + 1 ≤ w1.heap.size := by have h := hb1.size; first | omega | (simp at h; omega)
  have AB := (Blk.new w [.int .i64 n, .int .i64 t, .int .i64 ky, .string rf, .int .i64 o, .int .i64 nw, .int .i64 s] 23 (g := w.heap.size) (by go_size)).below hb1 (by go_size)
  have A0 := AB.c 0 _ rfl
  have A1 := AB.c 1 _ rfl
  have A2 := AB.c 2 _ rfl
  have A3 := AB.c 3 _ rfl
  have A4 := AB.c 4 _ rfl
  have A5 := AB.c 5 _ rfl
  have A6 := AB.c 6 _ rfl
  have Af0 := AB.f 0 (Nat.le_of_ble_eq_true rfl)
  have Af1 := AB.f 1 (Nat.le_of_ble_eq_true rfl)
  have Af2 := AB.f 2 (Nat.le_of_ble_eq_true rfl)
  have Af3 := AB.f 3 (Nat.le_of_ble_eq_true rfl)
  have Af4 := AB.f 4 (Nat.le_of_ble_eq_true rfl)
  have Af5 := AB.f 5 (Nat.le_of_ble_eq_true rfl)
  have Af6 := AB.f 6 (Nat.le_of_ble_eq_true rfl)
  have Al := AB.lt
  replace hs := (hs.below (by go_grown) (Nat.le_refl _)).below hb1 (Nat.le_refl _)
  clear hb1
  go_wp2_with fail
  refine (Check_any secret now window xs ⟨n, t, ky, rf, o, nw, s⟩ oa cap _ hs hm).mono ?_
  rw [HF.out, HV.out]
  rintro e w2 ⟨o4, k4, rfl, own4, hb2⟩
  have sl4 := Sl.own own4
  clear own4
  have B2 : Below w.heap.size w w2 := bcall (by go_grown) hb2 (by go_size)
  have s2 := B2.size
  have q2 : w1.heap.size ≤ w2.heap.size := by have h := hb2.size; first | omega | (simp at h; omega)
  clear A0 A1 A2 A3 A4 A5 A6 Af0 Af1 Af2 Af3 Af4 Af5 Af6 Al
  replace AB := AB.below hb2 (by have h := AB.lt; go_size)
  have A0 := AB.c 0 _ rfl
  have A1 := AB.c 1 _ rfl
  have A2 := AB.c 2 _ rfl
  have A3 := AB.c 3 _ rfl
  have A4 := AB.c 4 _ rfl
  have A5 := AB.c 5 _ rfl
  have A6 := AB.c 6 _ rfl
  have Af0 := AB.f 0 (Nat.le_of_ble_eq_true rfl)
  have Af1 := AB.f 1 (Nat.le_of_ble_eq_true rfl)
  have Af2 := AB.f 2 (Nat.le_of_ble_eq_true rfl)
  have Af3 := AB.f 3 (Nat.le_of_ble_eq_true rfl)
  have Af4 := AB.f 4 (Nat.le_of_ble_eq_true rfl)
  have Af5 := AB.f 5 (Nat.le_of_ble_eq_true rfl)
  have Af6 := AB.f 6 (Nat.le_of_ble_eq_true rfl)
  have Al := AB.lt
  replace hs := hs.below hb2 (Nat.le_refl _)
  clear hb2
  go_wp2_with fail
  clear hs
  refine (Check_any secret now window LL ⟨n, t, ky, rf, o, nw, s⟩ o4 k4 _ (sl4.below (by go_grown) (Nat.le_refl _)) (by omega)).mono ?_
  rw [HQ.out, HQV.out]
  rintro e w3 ⟨o5, k5, rfl, own5, hb3⟩
  clear own5
  simp only [List.length_nil]
  have B3 : Below w.heap.size w w3 := bcall (by go_grown) hb3 (by go_size)
  have s3 := B3.size
  have q3 : w2.heap.size + 1 ≤ w3.heap.size := by have h := hb3.size; first | omega | (simp at h; omega)
  obtain ⟨ba0, ba1, baf, bag, bal⟩ := (Box2.new w2 (.int .i64 0) (.int .i64 0) 26).below hb3 (by go_size)
  clear A0 A1 A2 A3 A4 A5 A6 Af0 Af1 Af2 Af3 Af4 Af5 Af6 Al
  replace AB := (AB.alloc (.cells #[(.int .i64 0), (.int .i64 0)] 26)).below hb3 (by have h := AB.lt; go_size)
  have A0 := AB.c 0 _ rfl
  have A1 := AB.c 1 _ rfl
  have A2 := AB.c 2 _ rfl
  have A3 := AB.c 3 _ rfl
  have A4 := AB.c 4 _ rfl
  have A5 := AB.c 5 _ rfl
  have A6 := AB.c 6 _ rfl
  have Af0 := AB.f 0 (Nat.le_of_ble_eq_true rfl)
  have Af1 := AB.f 1 (Nat.le_of_ble_eq_true rfl)
  have Af2 := AB.f 2 (Nat.le_of_ble_eq_true rfl)
  have Af3 := AB.f 3 (Nat.le_of_ble_eq_true rfl)
  have Af4 := AB.f 4 (Nat.le_of_ble_eq_true rfl)
  have Af5 := AB.f 5 (Nat.le_of_ble_eq_true rfl)
  have Af6 := AB.f 6 (Nat.le_of_ble_eq_true rfl)
  have Al := AB.lt
  replace sl4 := (sl4.below (by go_grown) (Nat.le_refl _)).below hb3 (Nat.le_refl _)
  clear hb3
  go_wp2_with (first | (go_at_call 29; refine (rIsDigest_any _ _).mono ?_; rintro e w' ⟨rfl, rfl⟩) | (go_at_call 30; refine (Has_any LL other o4 k4 _ (sl4.below (by go_grown) (Nat.le_refl _)) (by omega)).mono ?_; rintro e w' ⟨rfl, rfl⟩))
  refine wp_region_ord [0, 1, 2, 3] (by kernel_rfl) (by kernel_rfl) ?_
  repeat (refine wpI_rd rfl rfl ?_; go_big_quiet_step (fail); refine wpQuiet_nil ?_)
  refine wpI_call (f := 17) (args := #[.int .i64 7, .int .i64 0]) rfl rfl rfl (by simp [go_sem]) ?_
  refine (fault_any _ _ _).mono ?_
  rintro e w4 ⟨rfl, hb4⟩
  refine ⟨_, rfl, hb4, ?_⟩
  have B4 : Below w.heap.size w w4 := bcall (by go_grown) hb4 (by go_size)
  have s4 := B4.size
  have q4 : w3.heap.size + 1 ≤ w4.heap.size := by have h := hb4.size; first | omega | (simp at h; omega)
  obtain ⟨ba0, ba1, baf, bag, bal⟩ := ((Box2.mk ba0 ba1 baf bag bal).alloc (.cells #[(.int .i64 7), (.int .i64 0)] 26)).drew.below hb4 (by go_size)
  obtain ⟨bb0, bb1, bbf, bbg, bbl⟩ := (Box2.new w3 (.int .i64 7) (.int .i64 0) 26).drew.below hb4 (by go_size)
  clear A0 A1 A2 A3 A4 A5 A6 Af0 Af1 Af2 Af3 Af4 Af5 Af6 Al
  replace AB := (AB.alloc (.cells #[(.int .i64 7), (.int .i64 0)] 26)).drew.below hb4 (by have h := AB.lt; go_size)
  have A0 := AB.c 0 _ rfl
  have A1 := AB.c 1 _ rfl
  have A2 := AB.c 2 _ rfl
  have A3 := AB.c 3 _ rfl
  have A4 := AB.c 4 _ rfl
  have A5 := AB.c 5 _ rfl
  have A6 := AB.c 6 _ rfl
  have Af0 := AB.f 0 (Nat.le_of_ble_eq_true rfl)
  have Af1 := AB.f 1 (Nat.le_of_ble_eq_true rfl)
  have Af2 := AB.f 2 (Nat.le_of_ble_eq_true rfl)
  have Af3 := AB.f 3 (Nat.le_of_ble_eq_true rfl)
  have Af4 := AB.f 4 (Nat.le_of_ble_eq_true rfl)
  have Af5 := AB.f 5 (Nat.le_of_ble_eq_true rfl)
  have Af6 := AB.f 6 (Nat.le_of_ble_eq_true rfl)
  have Al := AB.lt
  replace sl4 := (sl4.below (by go_grown) (Nat.le_refl _)).below hb4 (Nat.le_refl _)
  clear hb4
  try simp only [Act.put, List.setIfInBounds_toArray, List.set_cons_zero, List.set_cons_succ]
  repeat (refine wpI_rd rfl rfl ?_; go_big_quiet_step (fail); refine wpQuiet_nil ?_)
  refine wpI_nil ?_
  try simp only [Act.put, List.setIfInBounds_toArray, List.set_cons_zero, List.set_cons_succ]
  go_wp2_with fail
  go_ret
  exact ⟨ret_true (by simp), by go_grown⟩
set_option maxRecDepth 100000 in
set_option maxHeartbeats 2000000 in
theorem PushcertReplayIsRefused_ok (secret now window : Int) (xs : List Int) (n t ky : Int) (rf : ByteArray) (o nw s other : Int) (oa : Option Addr) (cap : Nat) (w : World) (hs : Sl w oa xs.length cap 1 (intVals xs)) (hm : xs.length ≤ 9223372036854775807) (hF : (Pl.pushF secret now window xs ⟨n, t, ky, rf, o, nw, s⟩).1 = 0) (h1 : Pl.isDigestB other = true) (h2 : other ∉ Pl.insS xs n) (h3 : xs.length < 39) : Calls Try.prog 6 #[.int .i64 secret, .int .i64 now, .int .i64 window, .slice oa xs.length cap, .agg (certCells ⟨n, t, ky, rf, o, nw, s⟩).toArray, .int .i64 other] w fun e w' => e = .returned (.bool true) ∧ Below w.heap.size w w' := by
  unfold certCells
  simp only
  obtain ⟨HF, HP⟩ := Pl.pushF_ok hF
  have h40 := HP.hused.len
  have hne := HP.room
  replace HF := Lib.hid HF
  have HV := Lib.hid (show Pl.pushV secret now window xs ⟨n, t, ky, rf, o, nw, s⟩ = Pl.insS xs n by rw [Pl.pushV, HF.out]; rfl)
  have HQ := Pl.pushF_used HP HP.next (Pl.mem_insS.2 (.inl rfl))
  have HQV : Pl.pushV secret now window (Pl.insS xs n) ⟨n, t, ky, rf, o, nw, s⟩ = [] := by rw [Pl.pushV, HQ]; rfl
  have hlen := Pl.length_insS xs n
  
  have HR := Pl.pushF_used HP (HP.next.insS h2 h1 (by show (Pl.insS xs n).length ≠ 40; omega)) (Pl.mem_insS.2 (.inr (Pl.mem_insS.2 (.inl rfl))))
  have HRV : Pl.pushV secret now window (Pl.insS (Pl.insS xs n) other) ⟨n, t, ky, rf, o, nw, s⟩ = [] := by rw [Pl.pushV, HR]; rfl
  clear HP hF
  simp only at HQ HQV HR HRV
  generalize Pl.insS xs n = LL at *
  replace HQ := Lib.hid HQ
  replace HQV := Lib.hid HQV
  replace HR := Lib.hid HR
  replace HRV := Lib.hid HRV
  have hl2 := Pl.length_insS LL other
  replace hl2 := Lib.hid hl2
  have u5 : decide (other ∈ LL) = false := by simpa using h2
  clear h2
  have u6 : decide (39 < LL.length) = false := by simp; omega
  have u6' : decide ((39 : Int) < (LL.length : Int)) = false := by simp; omega
  have hle : LL.length ≤ 40 := by omega
  clear hlen h3
  go_enter Try.func6, Try.ntmps6
  go_wp2_with fail
  refine (pushes_any _).mono ?_
  rintro e w1 ⟨rfl, hb1⟩
  have B1 : Below w.heap.size w w1 := bcall (by go_grown) hb1 (by go_size)
  have s1 := B1.size
  have q1 : w.heap.size + 1 ≤ w1.heap.size := by have h := hb1.size; first | omega | (simp at h; omega)
  have AB := (Blk.new w [.int .i64 n, .int .i64 t, .int .i64 ky, .string rf, .int .i64 o, .int .i64 nw, .int .i64 s] 23 (g := w.heap.size) (by go_size)).below hb1 (by go_size)
  have A0 := AB.c 0 _ rfl
  have A1 := AB.c 1 _ rfl
  have A2 := AB.c 2 _ rfl
  have A3 := AB.c 3 _ rfl
  have A4 := AB.c 4 _ rfl
  have A5 := AB.c 5 _ rfl
  have A6 := AB.c 6 _ rfl
  have Af0 := AB.f 0 (Nat.le_of_ble_eq_true rfl)
  have Af1 := AB.f 1 (Nat.le_of_ble_eq_true rfl)
  have Af2 := AB.f 2 (Nat.le_of_ble_eq_true rfl)
  have Af3 := AB.f 3 (Nat.le_of_ble_eq_true rfl)
  have Af4 := AB.f 4 (Nat.le_of_ble_eq_true rfl)
  have Af5 := AB.f 5 (Nat.le_of_ble_eq_true rfl)
  have Af6 := AB.f 6 (Nat.le_of_ble_eq_true rfl)
  have Al := AB.lt
  replace hs := (hs.below (by go_grown) (Nat.le_refl _)).below hb1 (Nat.le_refl _)
  clear hb1
  go_wp2_with fail
  refine (Check_any secret now window xs ⟨n, t, ky, rf, o, nw, s⟩ oa cap _ hs hm).mono ?_
  rw [HF.out, HV.out]
  rintro e w2 ⟨o4, k4, rfl, own4, hb2⟩
  have sl4 := Sl.own own4
  clear own4
  have B2 : Below w.heap.size w w2 := bcall (by go_grown) hb2 (by go_size)
  have s2 := B2.size
  have q2 : w1.heap.size ≤ w2.heap.size := by have h := hb2.size; first | omega | (simp at h; omega)
  clear A0 A1 A2 A3 A4 A5 A6 Af0 Af1 Af2 Af3 Af4 Af5 Af6 Al
  replace AB := AB.below hb2 (by have h := AB.lt; go_size)
  have A0 := AB.c 0 _ rfl
  have A1 := AB.c 1 _ rfl
  have A2 := AB.c 2 _ rfl
  have A3 := AB.c 3 _ rfl
  have A4 := AB.c 4 _ rfl
  have A5 := AB.c 5 _ rfl
  have A6 := AB.c 6 _ rfl
  have Af0 := AB.f 0 (Nat.le_of_ble_eq_true rfl)
  have Af1 := AB.f 1 (Nat.le_of_ble_eq_true rfl)
  have Af2 := AB.f 2 (Nat.le_of_ble_eq_true rfl)
  have Af3 := AB.f 3 (Nat.le_of_ble_eq_true rfl)
  have Af4 := AB.f 4 (Nat.le_of_ble_eq_true rfl)
  have Af5 := AB.f 5 (Nat.le_of_ble_eq_true rfl)
  have Af6 := AB.f 6 (Nat.le_of_ble_eq_true rfl)
  have Al := AB.lt
  replace hs := hs.below hb2 (Nat.le_refl _)
  clear hb2
  go_wp2_with fail
  clear hs
  refine (Check_any secret now window LL ⟨n, t, ky, rf, o, nw, s⟩ o4 k4 _ (sl4.below (by go_grown) (Nat.le_refl _)) (by omega)).mono ?_
  rw [HQ.out, HQV.out]
  rintro e w3 ⟨o5, k5, rfl, own5, hb3⟩
  clear own5
  simp only [List.length_nil]
  have B3 : Below w.heap.size w w3 := bcall (by go_grown) hb3 (by go_size)
  have s3 := B3.size
  have q3 : w2.heap.size + 1 ≤ w3.heap.size := by have h := hb3.size; first | omega | (simp at h; omega)
  obtain ⟨ba0, ba1, baf, bag, bal⟩ := (Box2.new w2 (.int .i64 0) (.int .i64 0) 26).below hb3 (by go_size)
  clear A0 A1 A2 A3 A4 A5 A6 Af0 Af1 Af2 Af3 Af4 Af5 Af6 Al
  replace AB := (AB.alloc (.cells #[(.int .i64 0), (.int .i64 0)] 26)).below hb3 (by have h := AB.lt; go_size)
  have A0 := AB.c 0 _ rfl
  have A1 := AB.c 1 _ rfl
  have A2 := AB.c 2 _ rfl
  have A3 := AB.c 3 _ rfl
  have A4 := AB.c 4 _ rfl
  have A5 := AB.c 5 _ rfl
  have A6 := AB.c 6 _ rfl
  have Af0 := AB.f 0 (Nat.le_of_ble_eq_true rfl)
  have Af1 := AB.f 1 (Nat.le_of_ble_eq_true rfl)
  have Af2 := AB.f 2 (Nat.le_of_ble_eq_true rfl)
  have Af3 := AB.f 3 (Nat.le_of_ble_eq_true rfl)
  have Af4 := AB.f 4 (Nat.le_of_ble_eq_true rfl)
  have Af5 := AB.f 5 (Nat.le_of_ble_eq_true rfl)
  have Af6 := AB.f 6 (Nat.le_of_ble_eq_true rfl)
  have Al := AB.lt
  replace sl4 := (sl4.below (by go_grown) (Nat.le_refl _)).below hb3 (Nat.le_refl _)
  clear hb3
  go_wp2_with (first | (go_at_call 29; refine (rIsDigest_any _ _).mono ?_; rintro e w' ⟨rfl, rfl⟩) | (go_at_call 30; refine (Has_any LL other o4 k4 _ (sl4.below (by go_grown) (Nat.le_refl _)) (by omega)).mono ?_; rintro e w' ⟨rfl, rfl⟩))
  have BB := (Box2.new w3 (.int .i64 7) (.int .i64 0) 26).drew
  clear A0 A1 A2 A3 A4 A5 A6 Af0 Af1 Af2 Af3 Af4 Af5 Af6 Al ba0 ba1 baf bag bal
  have AC := (AB.alloc (.cells #[.int .i64 7, .int .i64 0] 26)).drew
  have SL := (sl4.below ((Below.refl _ _).alloc (Nat.le_refl _) (.cells #[.int .i64 7, .int .i64 0] 26)) (Nat.le_refl _)).drew
  have BW := (B3.alloc s3 (.cells #[.int .i64 7, .int .i64 0] 26)).drew
  clear AB sl4 B1 B2 B3
  refine wp_region_free [5, 7, 11] [0, 1, 2, 3, 4, 6, 8, 9, 10, 12] [13]
    (fun i => [Hold.eq (.int .i64 secret),
      Hold.eq (.int .i64 now),
      Hold.eq (.int .i64 window),
      Hold.eq (.slice o4 LL.length k4),
      Hold.eq (.int .i64 other),
      Hold.sl (Pl.insS LL other).length 1 (intVals (Pl.insS LL other)),
      Hold.eq (.agg #[.int .i64 n, .int .i64 t, .int .i64 ky, .string rf, .int .i64 o, .int .i64 nw, .int .i64 s]),
      Hold.p (fun u => ∃ o c, u = .tuple #[.slice o 0 c, .agg #[.int .i64 7, .int .i64 0]]),
      Hold.p (fun u => ∃ o c, u = .tuple #[.slice o 0 c, .agg #[.int .i64 7, .int .i64 0]]),
      Hold.p (fun u => ∃ o c, u = .slice o 0 c),
      Hold.eq (.agg #[.int .i64 7, .int .i64 0]),
      Hold.box ((w3.alloc (.cells #[.int .i64 7, .int .i64 0] 26)).heap.size) (.int .i64 0) (.int .i64 0),
      Hold.any].getD i Hold.any) (by kernel_rfl) (by kernel_rfl) ?_ ?_
  · refine ⟨stepOb_ca (by kernel_rfl) (by kernel_rfl) ?_, stepOb_ca (by kernel_rfl) (by kernel_rfl) ?_, stepOb_mk (by kernel_rfl) (by kernel_rfl) ?_, stepOb_rd (by kernel_rfl) (by kernel_rfl) ?_, stepOb_rd (by kernel_rfl) (by kernel_rfl) ?_, stepOb_rd (by kernel_rfl) (by kernel_rfl) ?_, stepOb_rd (by kernel_rfl) (by kernel_rfl) ?_, stepOb_rd (by kernel_rfl) (by kernel_rfl) ?_, stepOb_rd (by kernel_rfl) (by kernel_rfl) ?_, stepOb_rd (by kernel_rfl) (by kernel_rfl) ?_, stepOb_rd (by kernel_rfl) (by kernel_rfl) ?_, stepOb_rd (by kernel_rfl) (by kernel_rfl) ?_, stepOb_rd (by kernel_rfl) (by kernel_rfl) ?_, trivial⟩
    all_goals (intro A x wx F hbx hd; replace hbx := Lib.hid hbx)
    · have e0 := F.get (d := 65) 3 rfl rfl (by simp) (hd 3 rfl)
      have e1 := F.get (d := 66) 4 rfl rfl (by simp) (hd 4 rfl)
      refine ⟨_, 28, #[.slice o4 LL.length k4, .int .i64 other], rfl, by simp [go_sem, e0.1, e1.1], ?_⟩
      skip
      refine (Inserted_any LL other o4 k4 _ (SL.below hbx.out (Nat.le_refl _)) (by omega)).mono ?_
      rintro e w' ⟨q, c, rfl, own, hb'⟩
      exact ⟨_, rfl, hb', _, _, rfl, Sl.own own⟩
    · have e0 := F.get (d := 62) 0 rfl rfl (by simp) (hd 0 rfl)
      have e1 := F.get (d := 63) 1 rfl rfl (by simp) (hd 1 rfl)
      have e2 := F.get (d := 64) 2 rfl rfl (by simp) (hd 2 rfl)
      obtain ⟨q, c, h5, q5⟩ := hd 5 rfl
      have e3 := F.get (d := 67) 5 rfl rfl (by simp) h5
      have e4 := F.get (d := 68) 6 rfl rfl (by simp) (hd 6 rfl)
      refine ⟨_, 26, #[.int .i64 secret, .int .i64 now, .int .i64 window, .slice q (Pl.insS LL other).length c, .agg #[.int .i64 n, .int .i64 t, .int .i64 ky, .string rf, .int .i64 o, .int .i64 nw, .int .i64 s]], rfl, by simp [go_sem, e0.1, e1.1, e2.1, e3.1, e4.1], ?_⟩
      skip
      refine (Check_any secret now window (Pl.insS LL other) ⟨n, t, ky, rf, o, nw, s⟩ q c _ q5 (by rw [hl2.out]; omega)).mono ?_
      rw [HR.out, HRV.out]
      rintro e w' ⟨q6, c6, rfl, own6, hb'⟩
      exact ⟨_, rfl, hb', _, _, rfl⟩
    · exact ⟨_, .pointer (some ⟨wx.heap.size, 0, none⟩), wx.alloc (.cells #[.int .i64 0, .int .i64 0] 26), rfl, by simp [go_sem], Below.ext ((Below.refl _ _).alloc (Nat.le_refl _) _), hbx.out.alloc hbx.out.size _, _, rfl, by have := hbx.out.size; first | exact this | (simp at this; omega), Box2.new _ _ _ _⟩
    · have e0 := F.was (d := 0) (v := .int .i64 secret) rfl rfl
      exact ⟨_, _, rfl, fun w' hx => by simp [go_sem, e0.1], rfl⟩
    · have e0 := F.was (d := 1) (v := .int .i64 now) rfl rfl
      exact ⟨_, _, rfl, fun w' hx => by simp [go_sem, e0.1], rfl⟩
    · have e0 := F.was (d := 2) (v := .int .i64 window) rfl rfl
      exact ⟨_, _, rfl, fun w' hx => by simp [go_sem, e0.1], rfl⟩
    · have e0 := F.was (d := 13) (v := .slice o4 LL.length k4) rfl rfl
      exact ⟨_, _, rfl, fun w' hx => by simp [go_sem, e0.1], rfl⟩
    · have e0 := F.was (d := 5) (v := .int .i64 other) rfl rfl
      exact ⟨_, _, rfl, fun w' hx => by simp [go_sem, e0.1], rfl⟩
    · have e0 := F.was (d := 10) (v := .pointer (some ⟨w.heap.size, 0, none⟩)) rfl rfl
      have g0 := hbx.out
      refine ⟨_, _, rfl, fun w' hx => ?_, rfl⟩
      have r0 := hx.cell _ _ ((g0.cell (p := ⟨w.heap.size, 0, none⟩) (by go_size)).trans (AC.c 0 _ rfl))
      have r1 := hx.cell _ _ ((g0.cell (p := ⟨w.heap.size, 1, none⟩) (by go_size)).trans (AC.c 1 _ rfl))
      have r2 := hx.cell _ _ ((g0.cell (p := ⟨w.heap.size, 2, none⟩) (by go_size)).trans (AC.c 2 _ rfl))
      have r3 := hx.cell _ _ ((g0.cell (p := ⟨w.heap.size, 3, none⟩) (by go_size)).trans (AC.c 3 _ rfl))
      have r4 := hx.cell _ _ ((g0.cell (p := ⟨w.heap.size, 4, none⟩) (by go_size)).trans (AC.c 4 _ rfl))
      have r5 := hx.cell _ _ ((g0.cell (p := ⟨w.heap.size, 5, none⟩) (by go_size)).trans (AC.c 5 _ rfl))
      have r6 := hx.cell _ _ ((g0.cell (p := ⟨w.heap.size, 6, none⟩) (by go_size)).trans (AC.c 6 _ rfl))
      simp [go_sem, e0.1, r0, r1, r2, r3, r4, r5, r6]
    · obtain ⟨q, c, h7⟩ := hd 7 rfl
      have e0 := F.get (d := 69) 7 rfl rfl (by simp) h7
      exact ⟨_, (.tuple #[.slice q 0 c, .agg #[.int .i64 7, .int .i64 0]]), rfl, fun w' hx => by simp [go_sem, e0.1], ⟨_, _, rfl⟩⟩
    · obtain ⟨q, c, h8⟩ := hd 8 rfl
      have e0 := F.get (d := 61) 8 rfl rfl (by simp) h8
      exact ⟨_, (.slice q 0 c), rfl, fun w' hx => by simp [go_sem, e0.1], ⟨_, _, rfl⟩⟩
    · obtain ⟨q, c, h8⟩ := hd 8 rfl
      have e0 := F.get (d := 61) 8 rfl rfl (by simp) h8
      exact ⟨_, _, rfl, fun w' hx => by simp [go_sem, e0.1], rfl⟩
    · obtain ⟨q, c, h9⟩ := hd 9 rfl
      have e0 := F.get (d := 70) 9 rfl rfl (by simp) h9
      exact ⟨_, (.slice q 0 c), rfl, fun w' hx => by simp [go_sem, e0.1], trivial⟩
  · intro x wx hbx hI
    obtain ⟨-, -, ⟨r, h11, hr, X2⟩, -, -, -, -, -, -, -, -, h10, -, -⟩ := hI
    have h10 : x 10 = .agg #[.int .i64 7, .int .i64 0] := h10
    obtain ⟨c0, c1, f0, f1, l1⟩ := X2
    simp only [actOf, Act.put, List.setIfInBounds_toArray, List.set_cons_succ, List.set_cons_zero, Nat.zero_add, Nat.reduceAdd, h10, h11]
    refine wpI_st rfl rfl rfl (by simp [go_sem, c0, c1, f0, f1]; rfl) ?_
    refine wpI_nil ?_
    simp only [Act.put]
    have hr1 : w3.heap.size < r := by simp at hr; omega
    have B4 : Below w.heap.size w wx := bcall BW hbx (by have h := BW.size; omega)
    have sx := hbx.size
    have RB := (Box2.mk c0 c1 f0 f1 l1).set (.int .i64 7) (.int .i64 0)
    have BB5 := (BB.below hbx BB.lt).other (r := r) (by omega) (.int .i64 7) (.int .i64 0)
    have B5 : Below w.heap.size w ((wx.setCell ⟨r, 0, none⟩ (.int .i64 7)).setCell ⟨r, 1, none⟩ (.int .i64 0)) := (B4.setCell (p := ⟨r, 0, none⟩) (by show w.heap.size ≤ r; omega) _).setCell (p := ⟨r, 1, none⟩) (by show w.heap.size ≤ r; omega) _
    clear c0 c1 f0 f1 l1 BB BW AC SL hbx B4 h11 h10 hr sx
    generalize (wx.setCell ⟨r, 0, none⟩ (.int .i64 7)).setCell ⟨r, 1, none⟩ (.int .i64 0) = w5 at *
    obtain ⟨ba0, ba1, baf, bag, bal⟩ := RB
    obtain ⟨bb0, bb1, bbf, bbg, bbl⟩ := BB5
    have s5 := B5.size
    go_wp2_with fail
    refine wp_region_ord [0, 1, 2, 3, 4, 5, 6, 7, 8] (by kernel_rfl) (by kernel_rfl) ?_
    repeat (refine wpI_rd rfl rfl ?_; go_big_quiet_step (fail); refine wpQuiet_nil ?_)
    refine wpI_call (f := 17) (args := #[.int .i64 7, .int .i64 0]) rfl rfl rfl (by simp [go_sem]) ?_
    refine (fault_any _ _ _).mono ?_
    rintro e w6 ⟨rfl, hb6⟩
    refine ⟨_, rfl, hb6, ?_⟩
    have B6 : Below w.heap.size w w6 := bcall (by go_grown) hb6 (by go_size)
    have s6 := B6.size
    have q6 : w5.heap.size ≤ w6.heap.size := by have h := hb6.size; first | omega | (simp at h; omega)
    obtain ⟨ba0, ba1, baf, bag, bal⟩ := (Box2.mk ba0 ba1 baf bag bal).drew.below hb6 (by go_size)
    obtain ⟨bb0, bb1, bbf, bbg, bbl⟩ := (Box2.mk bb0 bb1 bbf bbg bbl).drew.below hb6 (by go_size)
    clear hb6
    try simp only [Act.put, List.setIfInBounds_toArray, List.set_cons_zero, List.set_cons_succ]
    repeat (refine wpI_rd rfl rfl ?_; go_big_quiet_step (fail); refine wpQuiet_nil ?_)
    refine wpI_call (f := 17) (args := #[.int .i64 7, .int .i64 0]) rfl rfl rfl (by simp [go_sem]) ?_
    refine (fault_any _ _ _).mono ?_
    rintro e w7 ⟨rfl, hb7⟩
    refine ⟨_, rfl, hb7, ?_⟩
    have B7 : Below w.heap.size w w7 := bcall (by go_grown) hb7 (by go_size)
    have s7 := B7.size
    have q7 : w6.heap.size ≤ w7.heap.size := by have h := hb7.size; first | omega | (simp at h; omega)
    obtain ⟨ba0, ba1, baf, bag, bal⟩ := (Box2.mk ba0 ba1 baf bag bal).below hb7 (by go_size)
    obtain ⟨bb0, bb1, bbf, bbg, bbl⟩ := (Box2.mk bb0 bb1 bbf bbg bbl).below hb7 (by go_size)
    clear hb7
    try simp only [Act.put, List.setIfInBounds_toArray, List.set_cons_zero, List.set_cons_succ]
    repeat (refine wpI_rd rfl rfl ?_; go_big_quiet_step (fail); refine wpQuiet_nil ?_)
    refine wpI_nil ?_
    try simp only [Act.put, List.setIfInBounds_toArray, List.set_cons_zero, List.set_cons_succ]
    go_wp2_with fail
    go_ret
    exact ⟨ret_true (by simp), by go_grown⟩
theorem PushcertReplayIsRefused_main (secret now window : Int) (xs : List Int) (c : Pl.Cert) (other : Int) (oa : Option Addr) (cap : Nat) (w : World) (hs : Sl w oa xs.length cap 1 (intVals xs)) (hm : xs.length ≤ 9223372036854775807) :
    Calls Try.prog 6 #[.int .i64 secret, .int .i64 now, .int .i64 window, .slice oa xs.length cap, .agg (certCells c).toArray, .int .i64 other] w fun e w' => e = .returned (.bool true) ∧ Below w.heap.size w w' := by
  obtain ⟨n, t, ky, rf, o, nw, s⟩ := c
  by_cases hF : (Pl.pushF secret now window xs ⟨n, t, ky, rf, o, nw, s⟩).1 = 0
  · cases h1 : Pl.isDigestB other with
    | false => exact PushcertReplayIsRefused_nod secret now window xs n t ky rf o nw s other oa cap w hs hm hF h1
    | true =>
      by_cases h2 : other ∈ Pl.insS xs n
      · exact PushcertReplayIsRefused_in secret now window xs n t ky rf o nw s other oa cap w hs hm hF h1 h2
      · have P := (Pl.pushF_ok hF).2
        have h4 := P.hused.len
        have h5 := P.room
        by_cases h3 : xs.length = 39
        · exact PushcertReplayIsRefused_full secret now window xs n t ky rf o nw s other oa cap w hs hm hF h1 h2 h3
        · exact PushcertReplayIsRefused_ok secret now window xs n t ky rf o nw s other oa cap w hs hm hF h1 h2 (by omega)
  · exact PushcertReplayIsRefused_bad secret now window xs n t ky rf o nw s other oa cap w hs hm hF
end Go.Proofs.Ytkhkijpkgogncaa
