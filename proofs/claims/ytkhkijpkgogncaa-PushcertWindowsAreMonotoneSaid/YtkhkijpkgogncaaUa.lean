/- Contracts of package pushcert and its reference: times, nonces, certificates. -/
import Derived.Test.YtkhkijpkgogncaaWi
import Derived.Test.YtkhkijpkgogncaaWf
import Derived.Test.YtkhkijpkgogncaaPh
import Derived.Test.YtkhkijpkgogncaaKl
import Derived.Test.YtkhkijpkgogncaaKe
import Derived.Test.YtkhkijpkgogncaaKm
namespace Go.Proofs.Ytkhkijpkgogncaa
open Go.RowKit

theorem isTime_any (n : Int) (w : World) : Calls Try.prog 46 #[.int .i64 n] w fun e w' => e = .returned (.bool (Pl.isTimeB n)) ∧ w = w' := by
  by_cases h : 0 ≤ n
  · have e : Pl.isTimeB n = decide (n ≤ 100000) := by unfold Pl.isTimeB Pl.inB; simp [h]
    rw [e]
    have h2 : decide ((0 : Int) ≤ n) = true := by simpa using h
    go_enter Try.func46, Try.ntmps46
    go_wp2
    go_ret
    exact ⟨rfl, rfl⟩
  · have e : Pl.isTimeB n = false := by unfold Pl.isTimeB Pl.inB; simp [h]
    rw [e]
    have h2 : decide ((0 : Int) ≤ n) = false := by simpa using h
    go_enter Try.func46, Try.ntmps46
    go_wp2
    go_ret
    exact ⟨rfl, rfl⟩
theorem msg1_len (t : Int) : (Pl.msgS [t]).length = 8 := by rw [Pl.msgS_length]; rfl
theorem msgF_ok {xs : List Int} (hn : xs.length ≤ 64) (hd : ∀ x ∈ xs, Pl.isDigestB x = true) : Pl.msgF xs = (0, 0) := by
  unfold Pl.msgF Pl.digF
  rw [if_pos hn, List.findIdx?_eq_none_iff.2 (fun x hx => by simp [hd x hx])]
theorem Sign8 (k : Int) (l : List UInt8) (n : Nat) (hl : l.length = n) (oa : Option Addr) (cap : Nat) (w : World) (hs : Sl w oa n cap 1 (byteVals l)) (hk : Pl.isKeyB k = true) (hn : n ≤ 4096) :
    Calls Try.prog 48 #[.int .i64 k, .slice oa n cap] w fun e w' => e = .returned (.tuple #[.int .i64 (Pl.signS k l), .agg #[.int .i64 0, .int .i64 0]]) ∧ Below w.heap.size w w' := by
  subst hl
  exact Sign_ok k l oa cap w hs hk hn
theorem RSign8 (k : Int) (l : List UInt8) (n : Nat) (hl : l.length = n) (oa : Option Addr) (cap : Nat) (w : World) (hs : Sl w oa n cap 1 (byteVals l)) (hk : Pl.isKeyB k = true) (hn : n ≤ 9223372036854775807) :
    Calls Try.prog 49 #[.int .i64 k, .slice oa n cap] w fun e w' => e = .returned (.int .i64 (Pl.signS k l)) ∧ Below w.heap.size w w' := by
  subst hl
  exact RSign_ok k l oa cap w hs hk hn
theorem Nonce_any (secret time : Int) (w : World) : Calls Try.prog 19 #[.int .i64 secret, .int .i64 time] w fun e w' => e = .returned (.tuple #[.int .i64 (Pl.nonceV secret time), .agg #[.int .i64 (Pl.nonceF secret time).1, .int .i64 (Pl.nonceF secret time).2]]) ∧ Below w.heap.size w w' := by
  cases hk : Pl.isKeyB secret with
  | false =>
    have hF : Pl.nonceF secret time = (3, -1) := by rw [Pl.nonceF, hk]; rfl
    rw [Pl.nonceV, hF]
    go_enter Try.func19, Try.ntmps19
    go_wp2_with (first | (go_at_call 45; refine (isKey_any _ _).mono ?_; rintro e w' ⟨rfl, rfl⟩) | (go_at_call 46; refine (isTime_any _ _).mono ?_; rintro e w' ⟨rfl, rfl⟩))
    refine bodyPost_ret (v := .tuple #[.int .i64 0, .agg #[.int .i64 3, .int .i64 (-1)]]) (by simp [results, Try.results19, go_sem]) rfl ⟨rfl, by go_grown⟩
  | true =>
    cases ht : Pl.isTimeB time with
    | false =>
      have hF : Pl.nonceF secret time = (3, 0) := by rw [Pl.nonceF, hk, ht]; rfl
      rw [Pl.nonceV, hF]
      go_enter Try.func19, Try.ntmps19
      go_wp2_with (first | (go_at_call 45; refine (isKey_any _ _).mono ?_; rintro e w' ⟨rfl, rfl⟩) | (go_at_call 46; refine (isTime_any _ _).mono ?_; rintro e w' ⟨rfl, rfl⟩))
      refine bodyPost_ret (v := .tuple #[.int .i64 0, .agg #[.int .i64 3, .int .i64 0]]) (by simp [results, Try.results19, go_sem]) rfl ⟨rfl, by go_grown⟩
    | true =>
      have hF : Pl.nonceF secret time = (0, 0) := by rw [Pl.nonceF, hk, ht]; rfl
      have hV : Pl.nonceV secret time = Pl.nonceS secret time := by rw [Pl.nonceV, hF]; rfl
      rw [hV, hF]
      have HM := Lib.hid (msgF_ok (xs := [time]) (by simp) (by simpa using Pl.time_digest ht))
      have HMV := Lib.hid (Pl.msgV_ok HM.out)
      have HL := Lib.hid (msg1_len time)
      clear hF hV
      unfold Pl.nonceS
      go_enter Try.func19, Try.ntmps19
      go_wp2_with (first | (go_at_call 45; refine (isKey_any _ _).mono ?_; rintro e w' ⟨rfl, rfl⟩) | (go_at_call 46; refine (isTime_any _ _).mono ?_; rintro e w' ⟨rfl, rfl⟩))
      refine (Message_any [time] _ 1 _ (Sl.fresh (C := intVals [time]) (by simp) rfl (Nat.le_refl _) (by simp [maxLen])) (by simp)).mono ?_
      rintro e w1 ⟨o1, k1, rfl, own1, hb1⟩
      rw [HMV.out] at own1
      rw [HM.out, HMV.out]
      have sl1 := Sl.own own1
      rw [HL.out] at sl1
      rw [HL.out]
      clear own1
      have B1 : Below w.heap.size w w1 := bcall (by go_grown) hb1 (by go_size)
      have s1 := B1.size
      have q1 : w.heap.size + 2 ≤ w1.heap.size := by have h := hb1.size; first | omega | (simp at h; omega)
      obtain ⟨ba0, ba1, baf, bag, bal⟩ := ((Box2.new w (.int .i64 0) (.int .i64 0) 26).alloc (.cells #[.int .i64 time] 3)).below hb1 (by go_size)
      clear hb1
      go_wp2_with fail
      refine (Sign8 secret (Pl.msgS [time]) 8 HL.out o1 k1 _ (sl1.below (by go_grown) (Nat.le_refl _)) hk (by decide)).mono ?_
      rintro e w2 ⟨rfl, hb2⟩
      have B2 : Below w.heap.size w w2 := bcall (by go_grown) hb2 (by go_size)
      have s2 := B2.size
      have q2 : w1.heap.size + 1 ≤ w2.heap.size := by have h := hb2.size; first | omega | (simp at h; omega)
      obtain ⟨ba0, ba1, baf, bag, bal⟩ := ((Box2.mk ba0 ba1 baf bag bal).alloc (.cells #[(.int .i64 0), (.int .i64 0)] 26)).below hb2 (by go_size)
      obtain ⟨bb0, bb1, bbf, bbg, bbl⟩ := (Box2.new w1 (.int .i64 0) (.int .i64 0) 26).below hb2 (by go_size)
      replace sl1 := (sl1.below (by go_grown) (Nat.le_refl _)).below hb2 (Nat.le_refl _)
      clear hb2
      go_wp2_with fail
      refine bodyPost_ret (v := .tuple #[.int .i64 (Pl.signS secret (Pl.msgS [time])), .agg #[.int .i64 0, .int .i64 0]]) (by simp [results, Try.results19, go_sem, ba0, ba1]) rfl ⟨rfl, by go_grown⟩
theorem RNonce_ok (secret time : Int) (w : World) (hk : Pl.isKeyB secret = true) (ht : Pl.isTimeB time = true) : Calls Try.prog 20 #[.int .i64 secret, .int .i64 time] w fun e w' => e = .returned (.int .i64 (Pl.nonceS secret time)) ∧ Below w.heap.size w w' := by
  have hd := Lib.hid (show ∀ x ∈ [time], Pl.isDigestB x = true by simpa using Pl.time_digest ht)
  have HL := Lib.hid (msg1_len time)
  unfold Pl.nonceS
  go_enter Try.func20, Try.ntmps20
  go_wp2_with fail
  refine (RMessage_ok [time] _ 1 _ (Sl.fresh (C := intVals [time]) (by simp) rfl (Nat.le_refl _) (by simp [maxLen])) (by simp) hd.out).mono ?_
  rintro e w1 ⟨o1, k1, rfl, own1, hb1⟩
  have sl1 := Sl.own own1
  rw [HL.out] at sl1
  rw [HL.out]
  clear own1
  have B1 : Below w.heap.size w w1 := bcall (by go_grown) hb1 (by go_size)
  have s1 := B1.size
  have q1 : w.heap.size + 1 ≤ w1.heap.size := by have h := hb1.size; first | omega | (simp at h; omega)
  clear hb1
  go_wp2_with fail
  refine (RSign8 secret (Pl.msgS [time]) 8 HL.out o1 k1 _ sl1 hk (by decide)).mono ?_
  rintro e w2 ⟨rfl, hb2⟩
  have B2 : Below w.heap.size w w2 := bcall (by go_grown) hb2 (by go_size)
  have s2 := B2.size
  have q2 : w1.heap.size ≤ w2.heap.size := by have h := hb2.size; first | omega | (simp at h; omega)
  replace sl1 := sl1.below hb2 (Nat.le_refl _)
  clear hb2
  go_wp2_with fail
  go_ret
  exact ⟨rfl, by go_grown⟩

/-- The cells of a certificate. -/
def certCells (c : Pl.Cert) : List Value := [.int .i64 c.nonce, .int .i64 c.time, .int .i64 c.key, .string c.ref, .int .i64 c.old, .int .i64 c.new, .int .i64 c.sig]
set_option maxRecDepth 100000 in
set_option maxHeartbeats 1000000 in
theorem certValidate_any (c : Pl.Cert) (w : World) : Calls Try.prog 23 #[.agg (certCells c).toArray] w fun e w' => e = .returned (.agg #[.int .i64 (Pl.certF c).1, .int .i64 (Pl.certF c).2]) ∧ Below w.heap.size w w' := by
  obtain ⟨n, t, k, rf, o, nw, s⟩ := c
  unfold certCells
  simp only
  have idx0 : ∀ (a b d : Int) (w : World), (Instr.index 74 (.agg #[.int .i64 a, .int .i64 b, .int .i64 d]) (.int .i64 0)).run Try.prog w = .ok (.int .i64 a) w := fun _ _ _ _ => by kernel_rfl
  have idx1 : ∀ (a b d : Int) (w : World), (Instr.index 74 (.agg #[.int .i64 a, .int .i64 b, .int .i64 d]) (.int .i64 1)).run Try.prog w = .ok (.int .i64 b) w := fun _ _ _ _ => by kernel_rfl
  have idx2 : ∀ (a b d : Int) (w : World), (Instr.index 74 (.agg #[.int .i64 a, .int .i64 b, .int .i64 d]) (.int .i64 2)).run Try.prog w = .ok (.int .i64 d) w := fun _ _ _ _ => by kernel_rfl
  obtain ⟨F1, hF1⟩ : ∃ F, Pl.certF ⟨n, t, k, rf, o, nw, s⟩ = F := ⟨_, rfl⟩
  rw [hF1]
  have EF := Lib.hid hF1
  clear hF1
  go_enter Try.func23, Try.ntmps23
  go_wp2_with (first | (go_at_call 52; refine (isDigest_any _ _).mono ?_; rintro e w' ⟨rfl, rfl⟩) | (go_at_call 45; refine (isKey_any _ _).mono ?_; rintro e w' ⟨rfl, rfl⟩) | (go_at_call 46; refine (isTime_any _ _).mono ?_; rintro e w' ⟨rfl, rfl⟩))
  go_loop [12] (fun v => ∃ j : Nat, j ≤ 3 ∧ v = .int .i64 (j : Int) ∧ (0 < j → Pl.isDigestB n = true) ∧ (1 < j → Pl.isDigestB o = true) ∧ (2 < j → Pl.isDigestB nw = true)) (fun v => 3 - (intOf v).toNat)
  case atStart => exact ⟨0, by decide, rfl, by omega, by omega, by omega⟩
  case round =>
    obtain ⟨j, hj, rfl, j0, j1, j2⟩ := hrel
    match j, hj with
    | 0, _ =>
      clear j0 j1 j2
      cases hn : Pl.isDigestB n with
      | false =>
        have E := Lib.hid (show F1 = (3, 0) by rw [← EF.out]; unfold Pl.certF Pl.certB; simp [hn])
        go_wp2_with (first | (go_at_call 52; refine (isDigest_any _ _).mono ?_; rintro e w' ⟨rfl, rfl⟩) | (go_at_call 45; refine (isKey_any _ _).mono ?_; rintro e w' ⟨rfl, rfl⟩) | (go_at_call 46; refine (isTime_any _ _).mono ?_; rintro e w' ⟨rfl, rfl⟩))
        refine bodyPost_ret (v := .agg #[.int .i64 3, .int .i64 0]) (by simp [results, Try.results23, go_sem]) rfl ⟨by rw [E.out], by go_grown⟩
      | true =>
        go_wp2_with (first | (go_at_call 52; refine (isDigest_any _ _).mono ?_; rintro e w' ⟨rfl, rfl⟩) | (go_at_call 45; refine (isKey_any _ _).mono ?_; rintro e w' ⟨rfl, rfl⟩) | (go_at_call 46; refine (isTime_any _ _).mono ?_; rintro e w' ⟨rfl, rfl⟩))
        go_round
        case rel => exact ⟨1, by decide, by go_num, by simp, by simp, by simp⟩
        case measure => simp [intOf]
    | 1, _ =>
      have hn := j0 (by decide)
      clear j0 j1 j2
      cases ho : Pl.isDigestB o with
      | false =>
        have E := Lib.hid (show F1 = (3, 0) by rw [← EF.out]; unfold Pl.certF Pl.certB; simp [ho])
        go_wp2_with (first | (go_at_call 52; refine (isDigest_any _ _).mono ?_; rintro e w' ⟨rfl, rfl⟩) | (go_at_call 45; refine (isKey_any _ _).mono ?_; rintro e w' ⟨rfl, rfl⟩) | (go_at_call 46; refine (isTime_any _ _).mono ?_; rintro e w' ⟨rfl, rfl⟩))
        refine bodyPost_ret (v := .agg #[.int .i64 3, .int .i64 0]) (by simp [results, Try.results23, go_sem]) rfl ⟨by rw [E.out], by go_grown⟩
      | true =>
        go_wp2_with (first | (go_at_call 52; refine (isDigest_any _ _).mono ?_; rintro e w' ⟨rfl, rfl⟩) | (go_at_call 45; refine (isKey_any _ _).mono ?_; rintro e w' ⟨rfl, rfl⟩) | (go_at_call 46; refine (isTime_any _ _).mono ?_; rintro e w' ⟨rfl, rfl⟩))
        go_round
        case rel => exact ⟨2, by decide, by go_num, by simp [hn], by simp, by simp⟩
        case measure => simp [intOf]
    | 2, _ =>
      have hn := j0 (by decide)
      have ho := j1 (by decide)
      clear j0 j1 j2
      cases hnw : Pl.isDigestB nw with
      | false =>
        have E := Lib.hid (show F1 = (3, 0) by rw [← EF.out]; unfold Pl.certF Pl.certB; simp [hnw])
        go_wp2_with (first | (go_at_call 52; refine (isDigest_any _ _).mono ?_; rintro e w' ⟨rfl, rfl⟩) | (go_at_call 45; refine (isKey_any _ _).mono ?_; rintro e w' ⟨rfl, rfl⟩) | (go_at_call 46; refine (isTime_any _ _).mono ?_; rintro e w' ⟨rfl, rfl⟩))
        refine bodyPost_ret (v := .agg #[.int .i64 3, .int .i64 0]) (by simp [results, Try.results23, go_sem]) rfl ⟨by rw [E.out], by go_grown⟩
      | true =>
        go_wp2_with (first | (go_at_call 52; refine (isDigest_any _ _).mono ?_; rintro e w' ⟨rfl, rfl⟩) | (go_at_call 45; refine (isKey_any _ _).mono ?_; rintro e w' ⟨rfl, rfl⟩) | (go_at_call 46; refine (isTime_any _ _).mono ?_; rintro e w' ⟨rfl, rfl⟩))
        go_round
        case rel => exact ⟨3, by decide, by go_num, by simp [hn], by simp [ho], by simp⟩
        case measure => simp [intOf]
    | 3, _ =>
      have hn := j0 (by decide)
      have ho := j1 (by decide)
      have hnw := j2 (by decide)
      clear j0 j1 j2
      cases ht : Pl.isTimeB t with
      | false =>
        have E := Lib.hid (show F1 = (3, 0) by rw [← EF.out]; unfold Pl.certF Pl.certB; simp [ht])
        go_wp2_with (first | (go_at_call 52; refine (isDigest_any _ _).mono ?_; rintro e w' ⟨rfl, rfl⟩) | (go_at_call 45; refine (isKey_any _ _).mono ?_; rintro e w' ⟨rfl, rfl⟩) | (go_at_call 46; refine (isTime_any _ _).mono ?_; rintro e w' ⟨rfl, rfl⟩))
        refine bodyPost_ret (v := .agg #[.int .i64 3, .int .i64 0]) (by simp [results, Try.results23, go_sem]) rfl ⟨by rw [E.out], by go_grown⟩
      | true =>
        cases hk : Pl.isKeyB k with
        | false =>
          have E := Lib.hid (show F1 = (3, 0) by rw [← EF.out]; unfold Pl.certF Pl.certB; simp [hk])
          go_wp2_with (first | (go_at_call 52; refine (isDigest_any _ _).mono ?_; rintro e w' ⟨rfl, rfl⟩) | (go_at_call 45; refine (isKey_any _ _).mono ?_; rintro e w' ⟨rfl, rfl⟩) | (go_at_call 46; refine (isTime_any _ _).mono ?_; rintro e w' ⟨rfl, rfl⟩))
          refine bodyPost_ret (v := .agg #[.int .i64 3, .int .i64 0]) (by simp [results, Try.results23, go_sem]) rfl ⟨by rw [E.out], by go_grown⟩
        | true =>
          by_cases h0 : rf.size = 0
          · have E := Lib.hid (show F1 = (12, 0) by rw [← EF.out]; unfold Pl.certF Pl.certB; simp [hn, ht, hk, ho, hnw, h0])
            have t1 : rf.toList.isEmpty = true := by rw [Pl.toList_nil h0]; rfl
            have t2 : rf.toList = [] := Pl.toList_nil h0
            clear h0
            go_wp2_with (first | (go_at_call 52; refine (isDigest_any _ _).mono ?_; rintro e w' ⟨rfl, rfl⟩) | (go_at_call 45; refine (isKey_any _ _).mono ?_; rintro e w' ⟨rfl, rfl⟩) | (go_at_call 46; refine (isTime_any _ _).mono ?_; rintro e w' ⟨rfl, rfl⟩))
            refine bodyPost_ret (v := .agg #[.int .i64 12, .int .i64 0]) (by simp [results, Try.results23, go_sem]) rfl ⟨by rw [E.out], by go_grown⟩
          · have t1 := Pl.toList_ne h0
            by_cases h1 : 60 < rf.size
            · have E := Lib.hid (show F1 = (12, 0) by rw [← EF.out]; unfold Pl.certF Pl.certB; simp [hn, ht, hk, ho, hnw, h1])
              have t2 : decide ((60 : Int) < (rf.size : Int)) = true := by simp; omega
              clear h0 h1
              go_wp2_with (first | (go_at_call 52; refine (isDigest_any _ _).mono ?_; rintro e w' ⟨rfl, rfl⟩) | (go_at_call 45; refine (isKey_any _ _).mono ?_; rintro e w' ⟨rfl, rfl⟩) | (go_at_call 46; refine (isTime_any _ _).mono ?_; rintro e w' ⟨rfl, rfl⟩))
              refine bodyPost_ret (v := .agg #[.int .i64 12, .int .i64 0]) (by simp [results, Try.results23, go_sem]) rfl ⟨by rw [E.out], by go_grown⟩
            · have E := Lib.hid (show F1 = (0, 0) by rw [← EF.out]; unfold Pl.certF Pl.certB; rw [if_pos (by simp [hn, ht, hk, ho, hnw]), if_neg (by simp only; omega)])
              have t2 : decide ((60 : Int) < (rf.size : Int)) = false := by simp; omega
              clear h0 h1
              go_wp2_with (first | (go_at_call 52; refine (isDigest_any _ _).mono ?_; rintro e w' ⟨rfl, rfl⟩) | (go_at_call 45; refine (isKey_any _ _).mono ?_; rintro e w' ⟨rfl, rfl⟩) | (go_at_call 46; refine (isTime_any _ _).mono ?_; rintro e w' ⟨rfl, rfl⟩))
              refine bodyPost_ret (v := .agg #[.int .i64 0, .int .i64 0]) (by simp [results, Try.results23, go_sem]) rfl ⟨by rw [E.out], by go_grown⟩
set_option maxRecDepth 100000 in
set_option maxHeartbeats 1000000 in
theorem CertFault_any (c : Pl.Cert) (w : World) : Calls Try.prog 21 #[.agg (certCells c).toArray] w fun e w' => e = .returned (.agg #[.int .i64 (Pl.certF c).1, .int .i64 (Pl.certF c).2]) ∧ Below w.heap.size w w' := by
  obtain ⟨n, t, k, rf, o, nw, s⟩ := c
  unfold certCells
  simp only
  obtain ⟨F1, hF1⟩ : ∃ F, Pl.certF ⟨n, t, k, rf, o, nw, s⟩ = F := ⟨_, rfl⟩
  rw [hF1]
  have EF := Lib.hid hF1
  clear hF1
  cases hn : Pl.isDigestB n with
  | false =>
    have E := Lib.hid (show F1 = (3, 0) by rw [← EF.out]; unfold Pl.certF Pl.certB; simp [hn])
    go_enter Try.func21, Try.ntmps21
    go_wp2_with (first | (go_at_call 29; refine (rIsDigest_any _ _).mono ?_; rintro e w' ⟨rfl, rfl⟩) | (go_at_call 16; refine (rIsKey_any _ _).mono ?_; rintro e w' ⟨rfl, rfl⟩) | (go_at_call 44; refine (rin_any _ _ _ _).mono ?_; rintro e w' ⟨rfl, rfl⟩))
    refine (rfault_any _ _ _).mono ?_
    rintro e w1 ⟨rfl, hb1⟩
    have B1 : Below w.heap.size w w1 := bcall (by go_grown) hb1 (by simp; omega)
    obtain ⟨c0, c1, f0, f1, l1⟩ := (Box2.new (w.alloc (.cells #[.int .i64 n, .int .i64 t, .int .i64 k, .string rf, .int .i64 o, .int .i64 nw, .int .i64 s] 23)) (.int .i64 0) (.int .i64 0) 26).below hb1 (by simp)
    simp only [World.size_alloc] at c0 c1 f0 f1 l1
    go_wp2_with fail
    refine bodyPost_ret (v := .agg #[.int .i64 3, .int .i64 0]) (by simp [results, Try.results21, go_sem, c0, c1]) rfl ⟨by rw [E.out], by go_grown⟩
  | true =>
    cases ht : Pl.isTimeB t with
    | false =>
      have E := Lib.hid (show F1 = (3, 0) by rw [← EF.out]; unfold Pl.certF Pl.certB; simp [ht])
      replace ht : Pl.inB t 0 100000 = false := ht
      go_enter Try.func21, Try.ntmps21
      go_wp2_with (first | (go_at_call 29; refine (rIsDigest_any _ _).mono ?_; rintro e w' ⟨rfl, rfl⟩) | (go_at_call 16; refine (rIsKey_any _ _).mono ?_; rintro e w' ⟨rfl, rfl⟩) | (go_at_call 44; refine (rin_any _ _ _ _).mono ?_; rintro e w' ⟨rfl, rfl⟩))
      refine (rfault_any _ _ _).mono ?_
      rintro e w1 ⟨rfl, hb1⟩
      have B1 : Below w.heap.size w w1 := bcall (by go_grown) hb1 (by simp; omega)
      obtain ⟨c0, c1, f0, f1, l1⟩ := (Box2.new (w.alloc (.cells #[.int .i64 n, .int .i64 t, .int .i64 k, .string rf, .int .i64 o, .int .i64 nw, .int .i64 s] 23)) (.int .i64 0) (.int .i64 0) 26).below hb1 (by simp)
      simp only [World.size_alloc] at c0 c1 f0 f1 l1
      go_wp2_with fail
      refine bodyPost_ret (v := .agg #[.int .i64 3, .int .i64 0]) (by simp [results, Try.results21, go_sem, c0, c1]) rfl ⟨by rw [E.out], by go_grown⟩
    | true =>
      cases hk : Pl.isKeyB k with
      | false =>
        have E := Lib.hid (show F1 = (3, 0) by rw [← EF.out]; unfold Pl.certF Pl.certB; simp [hk])
        have hti : Pl.inB t 0 100000 = true := ht
        go_enter Try.func21, Try.ntmps21
        go_wp2_with (first | (go_at_call 29; refine (rIsDigest_any _ _).mono ?_; rintro e w' ⟨rfl, rfl⟩) | (go_at_call 16; refine (rIsKey_any _ _).mono ?_; rintro e w' ⟨rfl, rfl⟩) | (go_at_call 44; refine (rin_any _ _ _ _).mono ?_; rintro e w' ⟨rfl, rfl⟩))
        refine (rfault_any _ _ _).mono ?_
        rintro e w1 ⟨rfl, hb1⟩
        have B1 : Below w.heap.size w w1 := bcall (by go_grown) hb1 (by simp; omega)
        obtain ⟨c0, c1, f0, f1, l1⟩ := (Box2.new (w.alloc (.cells #[.int .i64 n, .int .i64 t, .int .i64 k, .string rf, .int .i64 o, .int .i64 nw, .int .i64 s] 23)) (.int .i64 0) (.int .i64 0) 26).below hb1 (by simp)
        simp only [World.size_alloc] at c0 c1 f0 f1 l1
        go_wp2_with fail
        refine bodyPost_ret (v := .agg #[.int .i64 3, .int .i64 0]) (by simp [results, Try.results21, go_sem, c0, c1]) rfl ⟨by rw [E.out], by go_grown⟩
      | true =>
        cases ho : Pl.isDigestB o with
        | false =>
          have E := Lib.hid (show F1 = (3, 0) by rw [← EF.out]; unfold Pl.certF Pl.certB; simp [ho])
          have hti : Pl.inB t 0 100000 = true := ht
          go_enter Try.func21, Try.ntmps21
          go_wp2_with (first | (go_at_call 29; refine (rIsDigest_any _ _).mono ?_; rintro e w' ⟨rfl, rfl⟩) | (go_at_call 16; refine (rIsKey_any _ _).mono ?_; rintro e w' ⟨rfl, rfl⟩) | (go_at_call 44; refine (rin_any _ _ _ _).mono ?_; rintro e w' ⟨rfl, rfl⟩))
          refine (rfault_any _ _ _).mono ?_
          rintro e w1 ⟨rfl, hb1⟩
          have B1 : Below w.heap.size w w1 := bcall (by go_grown) hb1 (by simp; omega)
          obtain ⟨c0, c1, f0, f1, l1⟩ := (Box2.new (w.alloc (.cells #[.int .i64 n, .int .i64 t, .int .i64 k, .string rf, .int .i64 o, .int .i64 nw, .int .i64 s] 23)) (.int .i64 0) (.int .i64 0) 26).below hb1 (by simp)
          simp only [World.size_alloc] at c0 c1 f0 f1 l1
          go_wp2_with fail
          refine bodyPost_ret (v := .agg #[.int .i64 3, .int .i64 0]) (by simp [results, Try.results21, go_sem, c0, c1]) rfl ⟨by rw [E.out], by go_grown⟩
        | true =>
          cases hnw : Pl.isDigestB nw with
          | false =>
            have E := Lib.hid (show F1 = (3, 0) by rw [← EF.out]; unfold Pl.certF Pl.certB; simp [hnw])
            have hti : Pl.inB t 0 100000 = true := ht
            go_enter Try.func21, Try.ntmps21
            go_wp2_with (first | (go_at_call 29; refine (rIsDigest_any _ _).mono ?_; rintro e w' ⟨rfl, rfl⟩) | (go_at_call 16; refine (rIsKey_any _ _).mono ?_; rintro e w' ⟨rfl, rfl⟩) | (go_at_call 44; refine (rin_any _ _ _ _).mono ?_; rintro e w' ⟨rfl, rfl⟩))
            refine (rfault_any _ _ _).mono ?_
            rintro e w1 ⟨rfl, hb1⟩
            have B1 : Below w.heap.size w w1 := bcall (by go_grown) hb1 (by simp; omega)
            obtain ⟨c0, c1, f0, f1, l1⟩ := (Box2.new (w.alloc (.cells #[.int .i64 n, .int .i64 t, .int .i64 k, .string rf, .int .i64 o, .int .i64 nw, .int .i64 s] 23)) (.int .i64 0) (.int .i64 0) 26).below hb1 (by simp)
            simp only [World.size_alloc] at c0 c1 f0 f1 l1
            go_wp2_with fail
            refine bodyPost_ret (v := .agg #[.int .i64 3, .int .i64 0]) (by simp [results, Try.results21, go_sem, c0, c1]) rfl ⟨by rw [E.out], by go_grown⟩
          | true =>
            have hti : Pl.inB t 0 100000 = true := ht
            by_cases h0 : rf.size = 0
            · have E := Lib.hid (show F1 = (12, 0) by rw [← EF.out]; unfold Pl.certF Pl.certB; simp [hn, ht, hk, ho, hnw, h0])
              have t1 : rf.toList.isEmpty = true := by rw [Pl.toList_nil h0]; rfl
              have t2 : rf.toList = [] := Pl.toList_nil h0
              clear h0
              go_enter Try.func21, Try.ntmps21
              go_wp2_with (first | (go_at_call 29; refine (rIsDigest_any _ _).mono ?_; rintro e w' ⟨rfl, rfl⟩) | (go_at_call 16; refine (rIsKey_any _ _).mono ?_; rintro e w' ⟨rfl, rfl⟩) | (go_at_call 44; refine (rin_any _ _ _ _).mono ?_; rintro e w' ⟨rfl, rfl⟩))
              refine (rfault_any _ _ _).mono ?_
              rintro e w1 ⟨rfl, hb1⟩
              have B1 : Below w.heap.size w w1 := bcall (by go_grown) hb1 (by simp; omega)
              obtain ⟨c0, c1, f0, f1, l1⟩ := (Box2.new (w.alloc (.cells #[.int .i64 n, .int .i64 t, .int .i64 k, .string rf, .int .i64 o, .int .i64 nw, .int .i64 s] 23)) (.int .i64 0) (.int .i64 0) 26).below hb1 (by simp)
              simp only [World.size_alloc] at c0 c1 f0 f1 l1
              go_wp2_with fail
              refine bodyPost_ret (v := .agg #[.int .i64 12, .int .i64 0]) (by simp [results, Try.results21, go_sem, c0, c1]) rfl ⟨by rw [E.out], by go_grown⟩
            · have t1 := Pl.toList_ne h0
              by_cases h1 : 60 < rf.size
              · have E := Lib.hid (show F1 = (12, 0) by rw [← EF.out]; unfold Pl.certF Pl.certB; simp [hn, ht, hk, ho, hnw, h1])
                have t2 : decide ((60 : Int) < (rf.size : Int)) = true := by simp; omega
                clear h0 h1
                go_enter Try.func21, Try.ntmps21
                go_wp2_with (first | (go_at_call 29; refine (rIsDigest_any _ _).mono ?_; rintro e w' ⟨rfl, rfl⟩) | (go_at_call 16; refine (rIsKey_any _ _).mono ?_; rintro e w' ⟨rfl, rfl⟩) | (go_at_call 44; refine (rin_any _ _ _ _).mono ?_; rintro e w' ⟨rfl, rfl⟩))
                refine (rfault_any _ _ _).mono ?_
                rintro e w1 ⟨rfl, hb1⟩
                have B1 : Below w.heap.size w w1 := bcall (by go_grown) hb1 (by simp; omega)
                obtain ⟨c0, c1, f0, f1, l1⟩ := (Box2.new (w.alloc (.cells #[.int .i64 n, .int .i64 t, .int .i64 k, .string rf, .int .i64 o, .int .i64 nw, .int .i64 s] 23)) (.int .i64 0) (.int .i64 0) 26).below hb1 (by simp)
                simp only [World.size_alloc] at c0 c1 f0 f1 l1
                go_wp2_with fail
                refine bodyPost_ret (v := .agg #[.int .i64 12, .int .i64 0]) (by simp [results, Try.results21, go_sem, c0, c1]) rfl ⟨by rw [E.out], by go_grown⟩
              · have E := Lib.hid (show F1 = (0, 0) by rw [← EF.out]; unfold Pl.certF Pl.certB; rw [if_pos (by simp [hn, ht, hk, ho, hnw]), if_neg (by simp only; omega)])
                have t2 : decide ((60 : Int) < (rf.size : Int)) = false := by simp; omega
                clear h0 h1
                go_enter Try.func21, Try.ntmps21
                go_wp2_with (first | (go_at_call 29; refine (rIsDigest_any _ _).mono ?_; rintro e w' ⟨rfl, rfl⟩) | (go_at_call 16; refine (rIsKey_any _ _).mono ?_; rintro e w' ⟨rfl, rfl⟩) | (go_at_call 44; refine (rin_any _ _ _ _).mono ?_; rintro e w' ⟨rfl, rfl⟩))
                refine bodyPost_ret (v := .agg #[.int .i64 0, .int .i64 0]) (by simp [results, Try.results21, go_sem]) rfl ⟨by rw [E.out], by go_grown⟩
end Go.Proofs.Ytkhkijpkgogncaa
