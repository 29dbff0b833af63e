/- The law TopSignedLogsAreAuditable returns true. -/
import Derived.Test.YtldepnabkdpokaaYa
import Derived.Test.YtldepnabkdpokaaTs
import Derived.Test.YtldepnabkdpokaaTt
import Derived.Test.YtldepnabkdpokaaWh
import Derived.Test.YtldepnabkdpokaaKv
import Derived.Deep.DeepCutAuto
namespace Go.Proofs.Ytldepnabkdpokaa
open Go.RowKit

theorem kernIn_any (n lo hi : Int) (w : World) :
    Calls Try.prog 14 #[.int .i64 n, .int .i64 lo, .int .i64 hi] w fun e w' => e = .returned (.bool (Pl.inB n lo hi)) ∧ w = w' := by
  go_enter Try.func14, Try.ntmps14
  go_wp2
  all_goals (go_ret; exact ⟨ret_bool (by unfold Pl.inB; simp; omega), rfl⟩)
set_option maxRecDepth 100000 in
set_option maxHeartbeats 4000000 in
theorem TopSignedLogsAreAuditable_long (key : Int) (ms : List Int) (i m : Int) (oa : Option Addr) (cap : Nat) (w : World) (_ : Sl w oa ms.length cap 1 (intVals ms)) (hm : ms.length ≤ 9223372036854775807) (h : 64 < ms.length) : Calls Try.prog 4 #[.int .i64 key, .slice oa ms.length cap, .int .i64 i, .int .i64 m] w fun e w' => e = .returned (.bool true) ∧ Below w.heap.size w w' := by
  have d1 : decide (64 < ms.length) = true := by simp; omega
  have d2 : decide ((64 : Int) < (ms.length : Int)) = true := by simp; omega
  
  go_enter Try.func4, Try.ntmps4
  go_wp2_with fail
  refine (kernSigns_any _).mono ?_
  rintro e w1 ⟨rfl, hb1⟩
  have B1 : Below w.heap.size w w1 := bcall (by go_grown) hb1 (by go_size)
  have s1 := B1.size
  have q1 : w.heap.size ≤ w1.heap.size := by have h := hb1.size; first | omega | (simp at h; omega)
  clear hb1
  go_wp2_with (first | (go_at_call 12; refine (rIsKey_any _ _).mono ?_; rintro e w' ⟨rfl, rfl⟩) | (go_at_call 14; refine (kernIn_any _ _ _ _).mono ?_; rintro e w' ⟨rfl, rfl⟩))
  go_ret
  exact ⟨ret_true (by simp), by go_grown⟩
set_option maxRecDepth 100000 in
set_option maxHeartbeats 4000000 in
theorem TopSignedLogsAreAuditable_key (key : Int) (ms : List Int) (i m : Int) (oa : Option Addr) (cap : Nat) (w : World) (_ : Sl w oa ms.length cap 1 (intVals ms)) (hm : ms.length ≤ 9223372036854775807) (h : ms.length ≤ 64) (hk : Pl.isKeyB key = false) : Calls Try.prog 4 #[.int .i64 key, .slice oa ms.length cap, .int .i64 i, .int .i64 m] w fun e w' => e = .returned (.bool true) ∧ Below w.heap.size w w' := by
  have d1 : decide (64 < ms.length) = false := by simp; omega
  have d2 : decide ((64 : Int) < (ms.length : Int)) = false := by simp; omega
  
  go_enter Try.func4, Try.ntmps4
  go_wp2_with fail
  refine (kernSigns_any _).mono ?_
  rintro e w1 ⟨rfl, hb1⟩
  have B1 : Below w.heap.size w w1 := bcall (by go_grown) hb1 (by go_size)
  have s1 := B1.size
  have q1 : w.heap.size ≤ w1.heap.size := by have h := hb1.size; first | omega | (simp at h; omega)
  clear hb1
  go_wp2_with (first | (go_at_call 12; refine (rIsKey_any _ _).mono ?_; rintro e w' ⟨rfl, rfl⟩) | (go_at_call 14; refine (kernIn_any _ _ _ _).mono ?_; rintro e w' ⟨rfl, rfl⟩))
  go_ret
  exact ⟨ret_true (by simp), by go_grown⟩
set_option maxRecDepth 100000 in
set_option maxHeartbeats 4000000 in
theorem TopSignedLogsAreAuditable_bad (key : Int) (ms : List Int) (i m : Int) (oa : Option Addr) (cap : Nat) (w : World) (hs : Sl w oa ms.length cap 1 (intVals ms)) (hm : ms.length ≤ 9223372036854775807) (h : ms.length ≤ 64) (hk : Pl.isKeyB key = true) (hb : (Pl.msgF ms).1 ≠ 0) : Calls Try.prog 4 #[.int .i64 key, .slice oa ms.length cap, .int .i64 i, .int .i64 m] w fun e w' => e = .returned (.bool true) ∧ Below w.heap.size w w' := by
  have d1 : decide (64 < ms.length) = false := by simp; omega
  have d2 : decide ((64 : Int) < (ms.length : Int)) = false := by simp; omega
  obtain ⟨G, hG⟩ : ∃ G, Pl.msgF ms = G := ⟨_, rfl⟩
  rw [hG] at hb
  have hF := Lib.hid hG
  have u1 : (G.1 == 0) = false := by simp [hb]
  have u2 : (G.1 != 0) = true := by simp [hb]
  clear hG hb
  go_enter Try.func4, Try.ntmps4
  go_wp2_with fail
  refine (kernSigns_any _).mono ?_
  rintro e w1 ⟨rfl, hb1⟩
  have B1 : Below w.heap.size w w1 := bcall (by go_grown) hb1 (by go_size)
  have s1 := B1.size
  have q1 : w.heap.size ≤ w1.heap.size := by have h := hb1.size; first | omega | (simp at h; omega)
  clear hb1
  go_wp2_with (first | (go_at_call 12; refine (rIsKey_any _ _).mono ?_; rintro e w' ⟨rfl, rfl⟩) | (go_at_call 14; refine (kernIn_any _ _ _ _).mono ?_; rintro e w' ⟨rfl, rfl⟩))
  refine (LeavesFault_any ms oa cap _ (hs.below (by go_grown) (Nat.le_refl _)) hm).mono ?_
  rw [hF.out]
  rintro e w2 ⟨rfl, hb2⟩
  have B2 : Below w.heap.size w w2 := bcall (by go_grown) hb2 (by go_size)
  have s2 := B2.size
  have q2 : w1.heap.size ≤ w2.heap.size := by have h := hb2.size; first | omega | (simp at h; omega)
  clear hb2
  go_wp2_with (first | (go_at_call 12; refine (rIsKey_any _ _).mono ?_; rintro e w' ⟨rfl, rfl⟩) | (go_at_call 14; refine (kernIn_any _ _ _ _).mono ?_; rintro e w' ⟨rfl, rfl⟩))
  go_ret
  exact ⟨ret_true (by simp), by go_grown⟩
set_option maxRecDepth 100000 in
set_option maxHeartbeats 4000000 in
theorem TopSignedLogsAreAuditable_ix (key : Int) (ms : List Int) (i m : Int) (oa : Option Addr) (cap : Nat) (w : World) (hs : Sl w oa ms.length cap 1 (intVals ms)) (hm : ms.length ≤ 9223372036854775807) (h : ms.length ≤ 64) (hk : Pl.isKeyB key = true) (hb : Pl.msgF ms = (0, 0)) (hi : Pl.inB i 0 (wrap64 (m - 1)) = false) : Calls Try.prog 4 #[.int .i64 key, .slice oa ms.length cap, .int .i64 i, .int .i64 m] w fun e w' => e = .returned (.bool true) ∧ Below w.heap.size w w' := by
  have d1 : decide (64 < ms.length) = false := by simp; omega
  have d2 : decide ((64 : Int) < (ms.length : Int)) = false := by simp; omega
  have hF := Lib.hid hb
  clear hb
  
  go_enter Try.func4, Try.ntmps4
  go_wp2_with fail
  refine (kernSigns_any _).mono ?_
  rintro e w1 ⟨rfl, hb1⟩
  have B1 : Below w.heap.size w w1 := bcall (by go_grown) hb1 (by go_size)
  have s1 := B1.size
  have q1 : w.heap.size ≤ w1.heap.size := by have h := hb1.size; first | omega | (simp at h; omega)
  clear hb1
  go_wp2_with (first | (go_at_call 12; refine (rIsKey_any _ _).mono ?_; rintro e w' ⟨rfl, rfl⟩) | (go_at_call 14; refine (kernIn_any _ _ _ _).mono ?_; rintro e w' ⟨rfl, rfl⟩))
  refine (LeavesFault_any ms oa cap _ (hs.below (by go_grown) (Nat.le_refl _)) hm).mono ?_
  rw [hF.out]
  rintro e w2 ⟨rfl, hb2⟩
  have B2 : Below w.heap.size w w2 := bcall (by go_grown) hb2 (by go_size)
  have s2 := B2.size
  have q2 : w1.heap.size ≤ w2.heap.size := by have h := hb2.size; first | omega | (simp at h; omega)
  clear hb2
  go_wp2_with (first | (go_at_call 12; refine (rIsKey_any _ _).mono ?_; rintro e w' ⟨rfl, rfl⟩) | (go_at_call 14; refine (kernIn_any _ _ _ _).mono ?_; rintro e w' ⟨rfl, rfl⟩))
  go_ret
  exact ⟨ret_true (by simp), by go_grown⟩
set_option maxRecDepth 100000 in
set_option maxHeartbeats 4000000 in
theorem TopSignedLogsAreAuditable_mx (key : Int) (ms : List Int) (i m : Int) (oa : Option Addr) (cap : Nat) (w : World) (hs : Sl w oa ms.length cap 1 (intVals ms)) (hm : ms.length ≤ 9223372036854775807) (h : ms.length ≤ 64) (hk : Pl.isKeyB key = true) (hb : Pl.msgF ms = (0, 0)) (hi : Pl.inB i 0 (wrap64 (m - 1)) = true) (hj : Pl.inB m 1 (ms.length : Int) = false) : Calls Try.prog 4 #[.int .i64 key, .slice oa ms.length cap, .int .i64 i, .int .i64 m] w fun e w' => e = .returned (.bool true) ∧ Below w.heap.size w w' := by
  have d1 : decide (64 < ms.length) = false := by simp; omega
  have d2 : decide ((64 : Int) < (ms.length : Int)) = false := by simp; omega
  have hF := Lib.hid hb
  clear hb
  
  go_enter Try.func4, Try.ntmps4
  go_wp2_with fail
  refine (kernSigns_any _).mono ?_
  rintro e w1 ⟨rfl, hb1⟩
  have B1 : Below w.heap.size w w1 := bcall (by go_grown) hb1 (by go_size)
  have s1 := B1.size
  have q1 : w.heap.size ≤ w1.heap.size := by have h := hb1.size; first | omega | (simp at h; omega)
  clear hb1
  go_wp2_with (first | (go_at_call 12; refine (rIsKey_any _ _).mono ?_; rintro e w' ⟨rfl, rfl⟩) | (go_at_call 14; refine (kernIn_any _ _ _ _).mono ?_; rintro e w' ⟨rfl, rfl⟩))
  refine (LeavesFault_any ms oa cap _ (hs.below (by go_grown) (Nat.le_refl _)) hm).mono ?_
  rw [hF.out]
  rintro e w2 ⟨rfl, hb2⟩
  have B2 : Below w.heap.size w w2 := bcall (by go_grown) hb2 (by go_size)
  have s2 := B2.size
  have q2 : w1.heap.size ≤ w2.heap.size := by have h := hb2.size; first | omega | (simp at h; omega)
  clear hb2
  go_wp2_with (first | (go_at_call 12; refine (rIsKey_any _ _).mono ?_; rintro e w' ⟨rfl, rfl⟩) | (go_at_call 14; refine (kernIn_any _ _ _ _).mono ?_; rintro e w' ⟨rfl, rfl⟩))
  go_ret
  exact ⟨ret_true (by simp), by go_grown⟩
set_option maxRecDepth 100000 in
set_option maxHeartbeats 4000000 in
theorem TopSignedLogsAreAuditable_ok (key : Int) (ms : List Int) (i m : Nat) (oa : Option Addr) (cap : Nat) (w : World) (hs : Sl w oa ms.length cap 1 (intVals ms)) (hm : ms.length ≤ 9223372036854775807) (h : ms.length ≤ 64) (hk : Pl.isKeyB key = true) (hb : Pl.msgF ms = (0, 0)) (hd : ∀ x ∈ ms, Pl.isDigestB x = true) (him : i < m) (hml : m ≤ ms.length) : Calls Try.prog 4 #[.int .i64 key, .slice oa ms.length cap, .int .i64 (i : Int), .int .i64 (m : Int)] w fun e w' => e = .returned (.bool true) ∧ Below w.heap.size w w' := by
  have d1 : decide (64 < ms.length) = false := by simp; omega
  have d2 : decide ((64 : Int) < (ms.length : Int)) = false := by simp; omega
  have hF := Lib.hid hb
  have hi : Pl.inB (i : Int) 0 (wrap64 ((m : Int) - 1)) = true := by rw [IntWalk.wrap64_in _ (by omega)]; exact Pl.inB_true.2 (by omega)
  have hi2 : Pl.inB (i : Int) 0 ((m : Int) - 1) = true := Pl.inB_true.2 (by omega)
  have hj : Pl.inB (m : Int) 1 (ms.length : Int) = true := Pl.inB_true.2 (by omega)
  clear hb
  obtain ⟨XA, hXe⟩ : ∃ X : List Int, ms.map (fun x => Pl.signS key (Pl.msgS [x])) = X := ⟨_, rfl⟩
  have hXl : XA.length = ms.length := by rw [← hXe]; simp
  have hXd : ∀ x ∈ XA, Pl.isDigestB x = true := fun x hx => by rw [← hXe] at hx; obtain ⟨y, _, rfl⟩ := List.mem_map.1 hx; exact Pl.signS_digest _ _
  have hXA : ∀ j (h : j < ms.length), intVals (XA.take j) ++ [.int .i64 (Pl.signS key (Pl.msgS [ms[j]]))] = intVals (XA.take (j + 1)) := fun j h => by
    have hj : j < XA.length := by omega
    rw [List.take_succ_eq_append_getElem hj, intVals_append]
    congr 1
    subst hXe
    simp [intVals]
  clear hXe
  replace hXA := Lib.hid hXA
  replace hXd := Lib.hid hXd
  replace hXl := Lib.hid hXl
  replace hd := Lib.hid hd
  
  go_enter Try.func4, Try.ntmps4
  go_wp2_with fail
  refine (kernSigns_any _).mono ?_
  rintro e w1 ⟨rfl, hb1⟩
  have B1 : Below w.heap.size w w1 := bcall (by go_grown) hb1 (by go_size)
  have s1 := B1.size
  have q1 : w.heap.size ≤ w1.heap.size := by have h := hb1.size; first | omega | (simp at h; omega)
  clear hb1
  go_wp2_with (first | (go_at_call 12; refine (rIsKey_any _ _).mono ?_; rintro e w' ⟨rfl, rfl⟩) | (go_at_call 14; refine (kernIn_any _ _ _ _).mono ?_; rintro e w' ⟨rfl, rfl⟩))
  refine (LeavesFault_any ms oa cap _ (hs.below (by go_grown) (Nat.le_refl _)) hm).mono ?_
  rw [hF.out]
  rintro e w2 ⟨rfl, hb2⟩
  have B2 : Below w.heap.size w w2 := bcall (by go_grown) hb2 (by go_size)
  have s2 := B2.size
  have q2 : w1.heap.size ≤ w2.heap.size := by have h := hb2.size; first | omega | (simp at h; omega)
  clear hb2
  go_wp2_with (first | (go_at_call 12; refine (rIsKey_any _ _).mono ?_; rintro e w' ⟨rfl, rfl⟩) | (go_at_call 14; refine (kernIn_any _ _ _ _).mono ?_; rintro e w' ⟨rfl, rfl⟩))
  clear B1
  go_loopw [9, 10] (fun v x wr => ∃ (j : Nat) (o : Option Addr) (c : Nat), j ≤ ms.length ∧ x = .int .i64 (j : Int) ∧ v = .slice o j c ∧ wr.ownsRow w2.heap.size 3 1 (.slice o j c) j (intVals (XA.take j)) ∧ Below w2.heap.size w2 wr) (fun _ x _ => ms.length - (intOf x).toNat)
  case atStart => exact ⟨0, none, 0, Nat.zero_le _, rfl, rfl, World.ownsRow_nil _ _ _ _, Below.refl _ _⟩
  case round =>
    obtain ⟨j, o, c, hjm, rfl, rfl, hown, hb2⟩ := hrel
    have hbw : Below w.heap.size w wr := bcall B2 hb2 s2
    have sw := hbw.size
    by_cases hlt : j < ms.length
    · have t1 : decide (j < ms.length) = true := by simp; omega
      have t2 : (j : Int) < (ms.length : Int) := by omega
      have hcap := hs.hcap
      have hmax : cap ≤ 9223372036854775807 := hs.hmax
      rcases hs.mem with h0 | ⟨b, off, rfl, hltb, hc⟩
      · have h0 : ms = [] := by simpa [intVals] using h0
        rw [h0] at hlt
        simp at hlt
      have x0 := hc j _ (intVals_get ms j hlt)
      have xd := hd.out _ (List.getElem_mem hlt)
      have XT := Lib.hid (hXA.out j hlt)
      clear hc
      generalize ms[j] = x at *
      have e2 : ((j : Int) + 1).toNat = j + 1 := by omega
      have e3 : (0 : Int) ≤ (j : Int) + 1 := by omega
      have e4 : (j : Int) + 1 ≤ (cap : Int) := by omega
      have e5 : (j : Int) ≤ (j : Int) + 1 := by omega
      have e6 : (0 : Int) ≤ (j : Int) := by omega
      have e7 : (j : Int) ≤ (cap : Int) := by omega
      clear hi hi2 hj
      have HM := Lib.hid (Pl.msgF_ok (p := [x]) (by simp) (by simpa using xd))
      have HMV := Lib.hid (Pl.msgV_ok HM.out)
      have hml8 : (Pl.msgS [x]).length ≤ 4096 := by rw [Pl.msgS_length]; simp
      obtain ⟨SV, hSV⟩ : ∃ y, Pl.signS key (Pl.msgS [x]) = y := ⟨_, rfl⟩
      have HSV := Lib.hid hSV
      have hSD : Pl.isDigestB SV = true := by rw [← hSV]; exact Pl.signS_digest _ _
      rw [hSV] at XT
      clear hSV xd
      replace hml8 := Lib.hid hml8
      replace hSD := Lib.hid hSD
      have sx : Sl wr (some ⟨b, off + j, none⟩) 1 (cap - j) 1 (intVals [x]) := ⟨by simp [intVals], by omega, by unfold maxLen; omega, .inr ⟨b, off + j, rfl, Nat.lt_of_lt_of_le hltb hbw.size, fun q u hu => by
        match q, hu with
        | 0, hu => cases hu; exact (hbw.cell (p := ⟨b, off + j, none⟩) hltb).trans x0
        | q + 1, hu => simp [intVals] at hu⟩⟩
      go_wp2_with fail
  
      refine (Message_any [x] _ (cap - j) _ sx (by simp)).mono ?_
      rintro e w4 ⟨o4, k4, rfl, own4, hb4⟩
      rw [HMV.out] at own4
      rw [HM.out, HMV.out]
      have sl4 := Sl.own own4
      clear own4
      have B4 : Below w.heap.size w w4 := bcall (by go_grown) hb4 (by go_size)
      have s4 := B4.size
      have q4 : wr.heap.size ≤ w4.heap.size := by have h := hb4.size; first | omega | (simp at h; omega)
      have ol4 := ownsRow_below hown hb4 (Nat.le_refl _)
      have b24 := bcall hb2 hb4 hb2.size
      clear hown
      clear hb4
      go_wp2_with fail
      refine (Sign_ok key (Pl.msgS [x]) o4 k4 _ (sl4.below (by go_grown) (Nat.le_refl _)) hk hml8.out).mono ?_
      rw [HSV.out]
      rintro e w5 ⟨rfl, hb5⟩
      have B5 : Below w.heap.size w w5 := bcall (by go_grown) hb5 (by go_size)
      have s5 := B5.size
      have q5 : w4.heap.size + 1 ≤ w5.heap.size := by have h := hb5.size; first | omega | (simp at h; omega)
      obtain ⟨ba0, ba1, baf, bag, bal⟩ := (Box2.new w4 (.int .i64 0) (.int .i64 0) 27).below hb5 (by go_size)
      replace sl4 := (sl4.below (by go_grown) (Nat.le_refl _)).below hb5 (Nat.le_refl _)
      have ol5 := ownsRow_below (ol4.alloc _) hb5 (Nat.le_refl _)
      have b25 := bcall (b24.alloc b24.size _) hb5 (by have := b24.size; simp; omega)
      clear ol4
      clear hb5
      go_wp2_with fail
      refine (Verify_ok key SV (Pl.msgS [x]) o4 k4 _ (sl4.below (by go_grown) (Nat.le_refl _)) hk hml8.out hSD.out).mono ?_
      rw [HSV.out, beq_self_eq_true SV]
      rintro e w6 ⟨rfl, hb6⟩
      have B6 : Below w.heap.size w w6 := bcall (by go_grown) hb6 (by go_size)
      have s6 := B6.size
      have q6 : w5.heap.size + 1 ≤ w6.heap.size := by have h := hb6.size; first | omega | (simp at h; omega)
      obtain ⟨ba0, ba1, baf, bag, bal⟩ := ((Box2.mk ba0 ba1 baf bag bal).alloc (.cells #[(.int .i64 0), (.int .i64 0)] 27)).below hb6 (by go_size)
      obtain ⟨bb0, bb1, bbf, bbg, bbl⟩ := (Box2.new w5 (.int .i64 0) (.int .i64 0) 27).below hb6 (by go_size)
      replace sl4 := (sl4.below (by go_grown) (Nat.le_refl _)).below hb6 (Nat.le_refl _)
      have ol6 := ownsRow_below (ol5.alloc _) hb6 (Nat.le_refl _)
      have b26 := bcall (b25.alloc b25.size _) hb6 (by have := b25.size; simp; omega)
      clear ol5
      clear hb6
      have b27 : Below w2.heap.size w2 (w6.alloc (.cells #[.int .i64 0, .int .i64 0] 27)) := b26.alloc b26.size _
      have q26 := b26.size
      go_wp2_with (at_builtin; refine ap1g (by rfl) (by rfl) Try.tInts b27 (by rfl) (ol6.alloc _) (g := w6.heap.size + 1) (m := 1) (by simp) (by rfl) (by rfl) (by rfl) (by omega) (by simp; omega) ?_; intro v7 w7 own7 b7 h7; obtain ⟨o7, c7, rfl⟩ := own_slice own7)
      go_roundw
      case rel => exact ⟨j + 1, o7, c7, hlt, by go_num, rfl, by rw [← XT.out]; exact own7, b7⟩
      case measure => simp [intOf]; omega
    · obtain rfl : j = ms.length := by omega
      have t1 : decide (ms.length < ms.length) = false := by simp
      have hown : wr.ownsRow w2.heap.size 3 1 (.slice o ms.length c) ms.length (intVals XA) := by have h := hown; rwa [List.take_of_length_le (by rw [hXl.out]; exact Nat.le_refl _)] at h
      have sl9 := Sl.own hown
      clear hown hi hi2 hj hd hXA
      have hl := hXl.out
      have lt : (XA.take m).length = m := by rw [List.length_take]; omega
      have hdt : ∀ x ∈ XA.take m, Pl.isDigestB x = true := fun x hx => hXd.out x (List.mem_of_mem_take hx)
      obtain ⟨xv, hxv⟩ : ∃ y, XA[i]? = some y := ⟨_, List.getElem?_eq_getElem (by omega)⟩
      have T1 := Pl.tvF_prove (xs := XA.take m) (i := i) (x := xv) (by omega) (by omega) hdt (by rw [List.getElem?_take_of_lt him]; exact hxv)
      have T2 := Pl.tvF_prove (xs := XA) (i := i) (x := xv) (by omega) (by omega) hXd.out hxv
      have T3 := Pl.vcoF_prove (xs := XA) (m := m) (by omega) (by omega) (by omega) hXd.out
      have F1 : Pl.msgF (XA.take m) = (0, 0) := Pl.msgF_ok (by omega) hdt
      have F2 : Pl.msgF XA = (0, 0) := Pl.msgF_ok (by omega) hXd.out
      have V1 : Pl.rootV (XA.take m) = Pl.rootS (XA.take m) := by unfold Pl.rootV; rw [F1]; rfl
      have V2 : Pl.rootV XA = Pl.rootS XA := by unfold Pl.rootV; rw [F2]; rfl
      have P1 : Pl.prvF (XA.take m) (i : Int) = (0, 0) := by unfold Pl.prvF; rw [F1, if_pos rfl, if_pos (Pl.inB_true.2 (by omega))]
      have P2 : Pl.prvF XA (i : Int) = (0, 0) := by unfold Pl.prvF; rw [F2, if_pos rfl, if_pos (Pl.inB_true.2 (by omega))]
      have P3 : Pl.pcoF XA (m : Int) = (0, 0) := by unfold Pl.pcoF; rw [F2, if_pos rfl, if_pos (Pl.inB_true.2 (by omega))]
      have W1 : Pl.prvV (XA.take m) (i : Int) = Pl.proveS (XA.take m) i := by unfold Pl.prvV; rw [P1, if_pos rfl, Int.toNat_natCast]
      have W2 : Pl.prvV XA (i : Int) = Pl.proveS XA i := by unfold Pl.prvV; rw [P2, if_pos rfl, Int.toNat_natCast]
      have W3 : Pl.pcoV XA (m : Int) = Pl.consS XA m true := by unfold Pl.pcoV; rw [P3, if_pos rfl, Int.toNat_natCast]
      have L1 : (Pl.proveS (XA.take m) i).length ≤ 64 := Nat.le_trans (Pl.prove_length (by omega) (by omega)) (by omega)
      have L2 : (Pl.proveS XA i).length ≤ 64 := Nat.le_trans (Pl.prove_length (by omega) (by omega)) (by omega)
      have L3 : (Pl.consS XA m true).length ≤ 64 := Pl.consF_length 64 XA m true
      have R1 := fun w h => Root_any (XA.take m) o c w h (by omega)
      have R2 := fun w h => Root_any XA o c w h (by omega)
      have R3 := fun w h => Prove_any (XA.take m) (i : Int) o c w h (by omega)
      have R4 := fun w h => Prove_any XA (i : Int) o c w h (by omega)
      have R5 := fun w h => ProveConsistency_any XA (m : Int) o c w h (by omega)
      have st := (show Sl wr o XA.length c 1 (intVals XA) by rw [hl]; exact sl9).take (k := m) (by omega)
      have hxc := fun (W : World) (h : Sl W o ms.length c 1 (intVals XA)) => h.mem
      have xi : (intVals XA)[i]? = some (.int .i64 xv) := by simp [intVals, hxv]
      rw [lt] at R1 R3 st T1
      rw [hl] at R2 R4 R5 T2 T3
      rw [F1, V1] at R1
      rw [F2, V2] at R2
      rw [W1, P1] at R3
      rw [W2, P2] at R4
      rw [W3, P3] at R5
      generalize Pl.proveS (XA.take m) i = pv1 at *
      generalize Pl.proveS XA i = pv2 at *
      generalize Pl.consS XA m true = pv3 at *
      generalize Pl.rootS (XA.take m) = r1 at *
      generalize Pl.rootS XA = r2 at *
      have hcm : m ≤ c := by have := sl9.hcap; omega
      have m1 : (m : Int) ≤ (ms.length : Int) := by omega
      have m2 : (m : Int) ≤ (c : Int) := by omega
      have m3 : (0 : Int) ≤ (m : Int) := by omega
      have m4 : (i : Int) < (ms.length : Int) := by omega
      have m5 : (0 : Int) ≤ (i : Int) := by omega
      obtain ⟨T1a, T1b⟩ := T1
      obtain ⟨T2a, T2b⟩ := T2
      obtain ⟨T3a, T3b⟩ := T3
      replace R1 := Lib.hid R1
      replace R2 := Lib.hid R2
      replace R3 := Lib.hid R3
      replace R4 := Lib.hid R4
      replace R5 := Lib.hid R5
      replace T1a := Lib.hid T1a
      replace T1b := Lib.hid T1b
      replace T2a := Lib.hid T2a
      replace T2b := Lib.hid T2b
      replace T3a := Lib.hid T3a
      replace T3b := Lib.hid T3b
      replace xi := Lib.hid xi
      replace hxc := Lib.hid hxc
      clear F1 F2 V1 V2 P1 P2 P3 W1 W2 W3 hdt lt hl hb2
      rcases hxc.out wr sl9 with h0 | ⟨b9, off9, rfl, lt9, hc9⟩
      · rw [h0] at xi
        exact absurd xi.out (by simp)
      have x9 := hc9 i _ xi.out
      clear hc9
      go_wp2_with fail
      refine (R1.out _ st).mono ?_
      rintro e w4 ⟨rfl, hb4⟩
      have B4 : Below w.heap.size w w4 := bcall (by go_grown) hb4 (by go_size)
      have s4 := B4.size
      have q4 : wr.heap.size ≤ w4.heap.size := by have h := hb4.size; first | omega | (simp at h; omega)
      replace sl9 := sl9.below hb4 (Nat.le_refl _)
      replace st := st.below hb4 (Nat.le_refl _)
      have C4 : Below wr.heap.size wr w4 := bcall (by go_grown) hb4 (by go_size)
      clear hb4
      go_wp2_with fail
      refine (R2.out _ (sl9.below (by go_grown) (Nat.le_refl _))).mono ?_
      rintro e w5 ⟨rfl, hb5⟩
      have B5 : Below w.heap.size w w5 := bcall (by go_grown) hb5 (by go_size)
      have s5 := B5.size
      have q5 : w4.heap.size + 1 ≤ w5.heap.size := by have h := hb5.size; first | omega | (simp at h; omega)
      obtain ⟨ba0, ba1, baf, bag, bal⟩ := (Box2.new w4 (.int .i64 0) (.int .i64 0) 27).below hb5 (by go_size)
      replace sl9 := (sl9.below (by go_grown) (Nat.le_refl _)).below hb5 (Nat.le_refl _)
      replace st := (st.below (by go_grown) (Nat.le_refl _)).below hb5 (Nat.le_refl _)
      have C5 : Below wr.heap.size wr w5 := bcall (by go_grown) hb5 (by go_size)
      clear hb5
      go_wp2_with fail
      refine (R3.out _ (st.below (by go_grown) (Nat.le_refl _))).mono ?_
      rintro e w6 ⟨v6, rfl, own6, hb6⟩
      obtain ⟨o6, k6, rfl⟩ := own_slice own6
      have slp := Sl.own own6
      clear own6
      have B6 : Below w.heap.size w w6 := bcall (by go_grown) hb6 (by go_size)
      have s6 := B6.size
      have q6 : w5.heap.size + 1 ≤ w6.heap.size := by have h := hb6.size; first | omega | (simp at h; omega)
      obtain ⟨ba0, ba1, baf, bag, bal⟩ := ((Box2.mk ba0 ba1 baf bag bal).alloc (.cells #[(.int .i64 0), (.int .i64 0)] 27)).below hb6 (by go_size)
      obtain ⟨bb0, bb1, bbf, bbg, bbl⟩ := (Box2.new w5 (.int .i64 0) (.int .i64 0) 27).below hb6 (by go_size)
      replace sl9 := (sl9.below (by go_grown) (Nat.le_refl _)).below hb6 (Nat.le_refl _)
      replace st := (st.below (by go_grown) (Nat.le_refl _)).below hb6 (Nat.le_refl _)
      have C6 : Below wr.heap.size wr w6 := bcall (by go_grown) hb6 (by go_size)
      clear hb6
      go_wp2_with fail
      refine (R4.out _ (sl9.below (by go_grown) (Nat.le_refl _))).mono ?_
      rintro e w7 ⟨v7, rfl, own7, hb7⟩
      obtain ⟨o7, k7, rfl⟩ := own_slice own7
      have slq := Sl.own own7
      have geq := own_ge own7
      clear own7
      have B7 : Below w.heap.size w w7 := bcall (by go_grown) hb7 (by go_size)
      have s7 := B7.size
      have q7 : w6.heap.size + 1 ≤ w7.heap.size := by have h := hb7.size; first | omega | (simp at h; omega)
      obtain ⟨ba0, ba1, baf, bag, bal⟩ := ((Box2.mk ba0 ba1 baf bag bal).alloc (.cells #[(.int .i64 0), (.int .i64 0)] 27)).below hb7 (by go_size)
      obtain ⟨bb0, bb1, bbf, bbg, bbl⟩ := ((Box2.mk bb0 bb1 bbf bbg bbl).alloc (.cells #[(.int .i64 0), (.int .i64 0)] 27)).below hb7 (by go_size)
      obtain ⟨bc0, bc1, bcf, bcg, bcl⟩ := (Box2.new w6 (.int .i64 0) (.int .i64 0) 27).below hb7 (by go_size)
      replace sl9 := (sl9.below (by go_grown) (Nat.le_refl _)).below hb7 (Nat.le_refl _)
      replace slp := (slp.below (by go_grown) (Nat.le_refl _)).below hb7 (Nat.le_refl _)
      have C7 : Below wr.heap.size wr w7 := bcall (by go_grown) hb7 (by go_size)
      clear hb7
      go_wp2_with fail
      refine (R5.out _ (sl9.below (by go_grown) (Nat.le_refl _))).mono ?_
      rintro e w8 ⟨v8, rfl, own8, hb8⟩
      obtain ⟨o8, k8, rfl⟩ := own_slice own8
      have slr := Sl.own own8
      have ger := own_ge own8
      clear own8
      have B8 : Below w.heap.size w w8 := bcall (by go_grown) hb8 (by go_size)
      have s8 := B8.size
      have q8 : w7.heap.size + 1 ≤ w8.heap.size := by have h := hb8.size; first | omega | (simp at h; omega)
      obtain ⟨ba0, ba1, baf, bag, bal⟩ := ((Box2.mk ba0 ba1 baf bag bal).alloc (.cells #[(.int .i64 0), (.int .i64 0)] 27)).below hb8 (by go_size)
      obtain ⟨bb0, bb1, bbf, bbg, bbl⟩ := ((Box2.mk bb0 bb1 bbf bbg bbl).alloc (.cells #[(.int .i64 0), (.int .i64 0)] 27)).below hb8 (by go_size)
      obtain ⟨bc0, bc1, bcf, bcg, bcl⟩ := ((Box2.mk bc0 bc1 bcf bcg bcl).alloc (.cells #[(.int .i64 0), (.int .i64 0)] 27)).below hb8 (by go_size)
      obtain ⟨bd0, bd1, bdf, bdg, bdl⟩ := (Box2.new w7 (.int .i64 0) (.int .i64 0) 27).below hb8 (by go_size)
      replace sl9 := (sl9.below (by go_grown) (Nat.le_refl _)).below hb8 (Nat.le_refl _)
      replace slp := (slp.below (by go_grown) (Nat.le_refl _)).below hb8 (Nat.le_refl _)
      replace slq := (slq.below (by go_grown) (Nat.le_refl _)).below hb8 (Nat.le_refl _)
      have C8 : Below wr.heap.size wr w8 := bcall (by go_grown) hb8 (by go_size)
      have x8 := (C8.cell (p := ⟨b9, off9 + i, none⟩) lt9).trans x9
      have l8 : b9 < w8.heap.size := Nat.lt_of_lt_of_le lt9 C8.size
      clear hb8
      go_wp2_with fail
      refine (Verify_any r1 m i xv pv1 o6 k6 _ (slp.below (by go_grown) (Nat.le_refl _)) (by omega)).mono ?_
      rw [T1a.out, T1b.out]
      rintro e w9 ⟨rfl, hb9⟩
      have B9 : Below w.heap.size w w9 := bcall (by go_grown) hb9 (by go_size)
      have s9 := B9.size
      have q9 : w8.heap.size + 1 ≤ w9.heap.size := by have h := hb9.size; first | omega | (simp at h; omega)
      obtain ⟨ba0, ba1, baf, bag, bal⟩ := ((Box2.mk ba0 ba1 baf bag bal).alloc (.cells #[(.int .i64 0), (.int .i64 0)] 27)).below hb9 (by go_size)
      obtain ⟨bb0, bb1, bbf, bbg, bbl⟩ := ((Box2.mk bb0 bb1 bbf bbg bbl).alloc (.cells #[(.int .i64 0), (.int .i64 0)] 27)).below hb9 (by go_size)
      obtain ⟨bc0, bc1, bcf, bcg, bcl⟩ := ((Box2.mk bc0 bc1 bcf bcg bcl).alloc (.cells #[(.int .i64 0), (.int .i64 0)] 27)).below hb9 (by go_size)
      obtain ⟨bd0, bd1, bdf, bdg, bdl⟩ := ((Box2.mk bd0 bd1 bdf bdg bdl).alloc (.cells #[(.int .i64 0), (.int .i64 0)] 27)).below hb9 (by go_size)
      obtain ⟨be0, be1, bef, beg, bel⟩ := (Box2.new w8 (.int .i64 0) (.int .i64 0) 27).below hb9 (by go_size)
      replace slp := (slp.below (by go_grown) (Nat.le_refl _)).below hb9 (Nat.le_refl _)
      replace slq := (slq.below (by go_grown) (Nat.le_refl _)).below hb9 (Nat.le_refl _)
      replace slr := (slr.below (by go_grown) (Nat.le_refl _)).below hb9 (Nat.le_refl _)
      have C9 : Below wr.heap.size wr w9 := bcall (by go_grown) hb9 (by go_size)
      have x10 := (C9.cell (p := ⟨b9, off9 + i, none⟩) lt9).trans x9
      have l9 : b9 < w9.heap.size := Nat.lt_of_lt_of_le lt9 C9.size
      clear x8
      clear hb9
      go_wp2_with fail
      refine (Verify_any r2 ms.length i xv pv2 o7 k7 _ (((slq.set2 (r := w4.heap.size) (fun b off hb => by have hb := geq b off hb; (try simp only [World.size_alloc] at hb); omega) (.int .i64 0) (.int .i64 0)).below (by go_grown) (Nat.le_refl _))) (by omega)).mono ?_
      rw [T2a.out, T2b.out]
      rintro e w10 ⟨rfl, hb10⟩
      have B10 : Below w.heap.size w w10 := bcall (by go_grown) hb10 (by go_size)
      have s10 := B10.size
      have q10 : w9.heap.size ≤ w10.heap.size := by have h := hb10.size; first | omega | (simp at h; omega)
      obtain ⟨ba0, ba1, baf, bag, bal⟩ := ((Box2.mk ba0 ba1 baf bag bal).set (.int .i64 0) (.int .i64 0)).below hb10 (by go_size)
      obtain ⟨bb0, bb1, bbf, bbg, bbl⟩ := ((Box2.mk bb0 bb1 bbf bbg bbl).other (r := w4.heap.size) (by omega) (.int .i64 0) (.int .i64 0)).below hb10 (by go_size)
      obtain ⟨bc0, bc1, bcf, bcg, bcl⟩ := ((Box2.mk bc0 bc1 bcf bcg bcl).other (r := w4.heap.size) (by omega) (.int .i64 0) (.int .i64 0)).below hb10 (by go_size)
      obtain ⟨bd0, bd1, bdf, bdg, bdl⟩ := ((Box2.mk bd0 bd1 bdf bdg bdl).other (r := w4.heap.size) (by omega) (.int .i64 0) (.int .i64 0)).below hb10 (by go_size)
      obtain ⟨be0, be1, bef, beg, bel⟩ := ((Box2.mk be0 be1 bef beg bel).other (r := w4.heap.size) (by omega) (.int .i64 0) (.int .i64 0)).below hb10 (by go_size)
      replace slq := (slq.set2 (r := w4.heap.size) (fun b off hb => by have hb := geq b off hb; (try simp only [World.size_alloc] at hb); omega) (.int .i64 0) (.int .i64 0)).below hb10 (Nat.le_refl _)
      replace slr := (slr.set2 (r := w4.heap.size) (fun b off hb => by have hb := ger b off hb; (try simp only [World.size_alloc] at hb); omega) (.int .i64 0) (.int .i64 0)).below hb10 (Nat.le_refl _)
      have C10 : Below wr.heap.size wr w10 := bcall (by go_grown) hb10 (by go_size)
      clear hb10
      go_wp2_with fail
      refine (VerifyConsistency_any r1 m r2 ms.length pv3 o8 k8 _ (((slr.set2 (r := w5.heap.size) (fun b off hb => by have hb := ger b off hb; (try simp only [World.size_alloc] at hb); omega) (.int .i64 0) (.int .i64 0)).below (by go_grown) (Nat.le_refl _))) (by omega)).mono ?_
      rw [T3a.out, T3b.out]
      rintro e w11 ⟨rfl, hb11⟩
      have B11 : Below w.heap.size w w11 := bcall (by go_grown) hb11 (by go_size)
      have s11 := B11.size
      have q11 : w10.heap.size ≤ w11.heap.size := by have h := hb11.size; first | omega | (simp at h; omega)
      obtain ⟨ba0, ba1, baf, bag, bal⟩ := ((Box2.mk ba0 ba1 baf bag bal).other (r := w5.heap.size) (by omega) (.int .i64 0) (.int .i64 0)).below hb11 (by go_size)
      obtain ⟨bb0, bb1, bbf, bbg, bbl⟩ := ((Box2.mk bb0 bb1 bbf bbg bbl).set (.int .i64 0) (.int .i64 0)).below hb11 (by go_size)
      obtain ⟨bc0, bc1, bcf, bcg, bcl⟩ := ((Box2.mk bc0 bc1 bcf bcg bcl).other (r := w5.heap.size) (by omega) (.int .i64 0) (.int .i64 0)).below hb11 (by go_size)
      obtain ⟨bd0, bd1, bdf, bdg, bdl⟩ := ((Box2.mk bd0 bd1 bdf bdg bdl).other (r := w5.heap.size) (by omega) (.int .i64 0) (.int .i64 0)).below hb11 (by go_size)
      obtain ⟨be0, be1, bef, beg, bel⟩ := ((Box2.mk be0 be1 bef beg bel).other (r := w5.heap.size) (by omega) (.int .i64 0) (.int .i64 0)).below hb11 (by go_size)
      replace slr := (slr.set2 (r := w5.heap.size) (fun b off hb => by have hb := ger b off hb; (try simp only [World.size_alloc] at hb); omega) (.int .i64 0) (.int .i64 0)).below hb11 (Nat.le_refl _)
      clear hb11
      go_wp2_with fail
      go_ret
      exact ⟨ret_true (by simp), by go_grown⟩
theorem TopSignedLogsAreAuditable_main (key : Int) (ms : List Int) (i m : Int) (oa : Option Addr) (cap : Nat) (w : World) (hs : Sl w oa ms.length cap 1 (intVals ms)) (hm : ms.length ≤ 9223372036854775807) : Calls Try.prog 4 #[.int .i64 key, .slice oa ms.length cap, .int .i64 i, .int .i64 m] w fun e w' => e = .returned (.bool true) ∧ Below w.heap.size w w' := by
  by_cases h : 64 < ms.length
  · exact TopSignedLogsAreAuditable_long key ms i m oa cap w hs hm h
  have h : ms.length ≤ 64 := by omega
  cases hk : Pl.isKeyB key
  · exact TopSignedLogsAreAuditable_key key ms i m oa cap w hs hm h hk
  rcases Pl.logF_cases ms with ⟨hF, hn, hd⟩ | hF
  · cases hi : Pl.inB i 0 (wrap64 (m - 1))
    · exact TopSignedLogsAreAuditable_ix key ms i m oa cap w hs hm h hk hF hi
    cases hj : Pl.inB m 1 (ms.length : Int)
    · exact TopSignedLogsAreAuditable_mx key ms i m oa cap w hs hm h hk hF hi hj
    have h1 := Pl.inB_true.1 hj
    rw [IntWalk.wrap64_in _ (by omega)] at hi
    have h2 := Pl.inB_true.1 hi
    obtain ⟨i', rfl⟩ := Int.eq_ofNat_of_zero_le h2.1
    obtain ⟨m', rfl⟩ := Int.eq_ofNat_of_zero_le (show 0 ≤ m by omega)
    exact TopSignedLogsAreAuditable_ok key ms i' m' oa cap w hs hm h hk hF hd (by omega) (by omega)
  · exact TopSignedLogsAreAuditable_bad key ms i m oa cap w hs hm h hk hF
end Go.Proofs.Ytldepnabkdpokaa
