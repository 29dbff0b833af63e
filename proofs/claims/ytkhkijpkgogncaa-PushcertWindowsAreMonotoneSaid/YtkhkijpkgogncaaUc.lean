/- Contracts: a certificate's signature by the reference; used nonces; insertion. -/
import Derived.Test.YtkhkijpkgogncaaUb
namespace Go.Proofs.Ytkhkijpkgogncaa
open Go.RowKit

set_option maxHeartbeats 1000000 in
theorem CertSignature_ok (n t k : Int) (rf : ByteArray) (o nw s : Int) (w : World) (hB : Pl.certB ⟨n, t, k, rf, o, nw, s⟩ = true) (h60 : rf.size ≤ 60) :
    Calls Try.prog 24 #[.agg (certCells ⟨n, t, k, rf, o, nw, s⟩).toArray] w fun e w' => e = .returned (.int .i64 (Pl.certS ⟨n, t, k, rf, o, nw, s⟩)) ∧ Below w.heap.size w w' := by
  have hd := Lib.hid (Pl.certNs_digest hB)
  have hk := (Pl.certB_true hB).2.2.1
  simp only at hk
  have HL := Lib.hid (msg5_len ⟨n, t, k, rf, o, nw, s⟩)
  clear hB
  unfold certCells
  simp only
  obtain ⟨SG, hSG⟩ : ∃ x, Pl.certS ⟨n, t, k, rf, o, nw, s⟩ = x := ⟨_, rfl⟩
  rw [hSG]
  replace hSG := Lib.hid hSG
  go_enter Try.func24, Try.ntmps24
  go_wp2_with fail
  refine (RMessage_ok (Pl.certNs ⟨n, t, k, rf, o, nw, s⟩) _ 5 _ (Sl.fresh (C := intVals (Pl.certNs ⟨n, t, k, rf, o, nw, s⟩)) (by simp) rfl (by simp [Pl.certNs]) (by simp [maxLen])) (by simp [Pl.certNs]) hd.out).mono ?_
  rintro e w1 ⟨o2, k2, rfl, own2, hb1⟩
  rw [HL.out] at own2
  rw [HL.out]
  have B1 : Below w.heap.size w w1 := bcall (by go_grown) hb1 (by go_size)
  have s1 := B1.size
  have q1 : w.heap.size + 2 ≤ w1.heap.size := by have h := hb1.size; first | omega | (simp at h; omega)
  have AB := ((Blk.new w [.int .i64 n, .int .i64 t, .int .i64 k, .string rf, .int .i64 o, .int .i64 nw, .int .i64 s] 23 (g := w.heap.size) (by go_size)).alloc (.cells #[.int .i64 n, .int .i64 t, .int .i64 k, .int .i64 o, .int .i64 nw] 3)).below hb1 (by go_size)
  have A0 := AB.c 0 _ rfl
  have A1 := AB.c 1 _ rfl
  have A2 := AB.c 2 _ rfl
  have A3 := AB.c 3 _ rfl
  have A4 := AB.c 4 _ rfl
  have A5 := AB.c 5 _ rfl
  have A6 := AB.c 6 _ rfl
  have Af0 := AB.f 0 (Nat.le_of_ble_eq_true rfl)
  have Af1 := AB.f 1 (Nat.le_of_ble_eq_true rfl)
  have Af2 := AB.f 2 (Nat.le_of_ble_eq_true rfl)
  have Af3 := AB.f 3 (Nat.le_of_ble_eq_true rfl)
  have Af4 := AB.f 4 (Nat.le_of_ble_eq_true rfl)
  have Af5 := AB.f 5 (Nat.le_of_ble_eq_true rfl)
  have Af6 := AB.f 6 (Nat.le_of_ble_eq_true rfl)
  have Al := AB.lt
  clear hb1
  obtain ⟨g2, rfl, hg2, hgl, -⟩ := own_cell own2 (by decide)
  have hg2 : w.heap.size + 2 ≤ g2 := by simp at hg2; omega
  go_wp2_with fail
  refine wp_region_ordD [(6, g2)] [0, 1, 2, 3, 4, 5, 6, 7, 8] (by kernel_rfl) (by kernel_rfl) ?_
  have bx : Below w1.heap.size w1 w1.drew := (Below.refl _ _).drew
  have own3 := own_base0 (ownsRow_below own2 bx (Nat.le_refl _)) (show w.heap.size + 2 ≤ _ by go_size)
  clear A0 Af0 A1 Af1 A2 Af2 A3 Af3 A4 Af4 A5 Af5 A6 Af6 Al
  have AB := AB.drew
  have BW := bcall B1 bx s1
  clear own2 bx
  have qW : w.heap.size + 2 ≤ w1.drew.heap.size := by simpa using q1
  generalize w1.drew = W at *
  have sW := BW.size
  have hne : w.heap.size ≠ g2 := by omega
  have A0 := AB.c 0 _ rfl
  have Af0 := AB.f 0 (Nat.le_of_ble_eq_true rfl)
  have A1 := AB.c 1 _ rfl
  have Af1 := AB.f 1 (Nat.le_of_ble_eq_true rfl)
  have A2 := AB.c 2 _ rfl
  have Af2 := AB.f 2 (Nat.le_of_ble_eq_true rfl)
  have A3 := AB.c 3 _ rfl
  have Af3 := AB.f 3 (Nat.le_of_ble_eq_true rfl)
  have A4 := AB.c 4 _ rfl
  have Af4 := AB.f 4 (Nat.le_of_ble_eq_true rfl)
  have A5 := AB.c 5 _ rfl
  have Af5 := AB.f 5 (Nat.le_of_ble_eq_true rfl)
  have A6 := AB.c 6 _ rfl
  have Af6 := AB.f 6 (Nat.le_of_ble_eq_true rfl)
  have Al := AB.lt
  repeat (refine wpD_pure rfl rfl ?_; go_big_quiet_step (fail); refine wpQuiet_nil ?_)
  refine wpD_rd [g2] (by kernel_rfl) rfl rfl ?_; go_big_quiet_step (fail); refine wpQuiet_nil ?_
  repeat (refine wpD_pure rfl rfl ?_; go_big_quiet_step (fail); refine wpQuiet_nil ?_)
  refine wpD_rd [] (by kernel_rfl) rfl rfl ?_; go_big_quiet_step (fail); refine wpQuiet_nil ?_
  try simp only [Act.put, List.setIfInBounds_toArray, List.set_cons_zero, List.set_cons_succ]
  obtain ⟨cv, w2, r2, bel2, sz2, sl2⟩ := run_s2b (P := Try.prog) (src := 9) Try.underlying9 Try.underlying68 Try.underlying5 W rf (by unfold maxLen; omega)
  refine wpD_add rfl rfl rfl (u := .slice (some ⟨W.heap.size, 0, none⟩) rf.size cv) (w' := w2) (by simp [go_sem, r2]) (Below.ext bel2) ?_
  have own3 := ownsRow_below own3 bel2 (Nat.le_refl _)
  have B2 := bcall BW bel2 sW
  have src2 := Src.ofSl (P := Try.prog) (t := 68) Try.underlying68 sl2 (by decide) (byteVals_one _)
  clear A0 Af0 A1 Af1 A2 Af2 A3 Af3 A4 Af4 A5 Af5 A6 Af6 Al
  try simp only [Act.put, List.setIfInBounds_toArray, List.set_cons_zero, List.set_cons_succ]
  refine wpD_app rfl rfl rfl rfl Try.tBytes (Below.refl (w.heap.size + 2) _) rfl own3 (m := rf.size) src2 (by omega) (by omega) (by intro g' h; have h : some g2 = some g' := h; injection h with h; subst h; exact List.mem_singleton.2 rfl) ?_
  intro v3 w3 own4 bel3 h3
  obtain ⟨o3, c3, rfl⟩ := own_slice own4
  have sl3 : Sl w3 o3 (40 + rf.size) c3 1 (byteVals (Pl.msgS (Pl.certNs ⟨n, t, k, rf, o, nw, s⟩) ++ rf.data.toList)) := by
    have := Sl.own own4
    rw [byteVals_append]
    exact this
  clear own3 own4 sl2 src2
  have B3 : Below w.heap.size w w3 := B2.trans (bel3.mono (by omega))
  have s3 := B3.size
  try simp only [Act.put, List.setIfInBounds_toArray, List.set_cons_zero, List.set_cons_succ]
  refine wpD_call (f := 49) (args := #[.int .i64 k, .slice o3 (40 + rf.size) c3]) rfl rfl rfl (by simp [go_sem]) ?_
  refine (RSign8 k (Pl.msgS (Pl.certNs ⟨n, t, k, rf, o, nw, s⟩) ++ rf.data.toList) (40 + rf.size) (by rw [List.length_append, HL.out]; rfl) o3 c3 _ sl3 hk (by omega)).mono ?_
  rw [show Pl.signS k (Pl.msgS (Pl.certNs ⟨n, t, k, rf, o, nw, s⟩) ++ rf.data.toList) = SG from hSG.out]
  rintro e w4 ⟨rfl, hb4⟩
  refine ⟨_, rfl, hb4, ?_⟩
  have B4 := bcall B3 hb4 s3
  try simp only [Act.put, List.setIfInBounds_toArray, List.set_cons_zero, List.set_cons_succ]
  repeat (refine wpD_pure rfl rfl ?_; go_big_quiet_step (fail); refine wpQuiet_nil ?_)
  refine wpD_nil ?_
  try simp only [Act.put, List.setIfInBounds_toArray, List.set_cons_zero, List.set_cons_succ]
  go_wp2_with fail
  go_ret
  exact ⟨rfl, by go_grown⟩
theorem checkUsed_any (xs : List Int) (oa : Option Addr) (cap : Nat) (w : World) (hs : Sl w oa xs.length cap 1 (intVals xs)) (hm : xs.length ≤ 9223372036854775807) :
    Calls Try.prog 53 #[.slice oa xs.length cap] w fun e w' => e = .returned (.int .i64 (Pl.usedC xs)) ∧ Below w.heap.size w w' := by
  by_cases hn : xs.length ≤ 40
  · have e1 : Pl.usedC xs = Pl.usedAt xs xs.length 0 := by simp [Pl.usedC, hn]
    rw [e1]
    clear e1
    rcases hs.mem with h0 | ⟨b, off, rfl, hlt, hc⟩
    · have hl : xs = [] := by simpa [intVals] using h0
      subst hl
      clear hn hm
      go_enter Try.func53, Try.ntmps53
      go_wp2
      go_rounds 1
      go_ret
      exact ⟨rfl, by go_grown⟩
    · clear hs
      generalize hF : Pl.usedAt xs xs.length 0 = F
      have HF := Lib.hid hF
      clear hF
      go_enter Try.func53, Try.ntmps53
      go_wp2
      go_loop [10] (fun i => ∃ k : Nat, k ≤ xs.length ∧ i = .int .i64 k ∧ Hid (Pl.usedAt xs (xs.length - k) k = F)) (fun i => xs.length - (intOf i).toNat)
      case atStart => exact ⟨0, Nat.zero_le _, rfl, HF.out⟩
      case round =>
        obtain ⟨k, hk, rfl, hu⟩ := hrel
        by_cases hlt2 : k < xs.length
        · have hcell : w.cell? ⟨b, off + k, none⟩ = some (.int .i64 xs[k]) := hc k _ (intVals_get xs k hlt2)
          have HS := Lib.hid (Pl.usedAt_step xs k hlt2)
          by_cases hd : Pl.isDigestB xs[k] = true
          · by_cases h0 : 0 < k
            · have hlt3 : k - 1 < xs.length := by omega
              have hcell2 : w.cell? ⟨b, off + (k - 1), none⟩ = some (.int .i64 xs[k - 1]) := hc (k - 1) _ (intVals_get xs (k - 1) hlt3)
              have HG := Lib.hid (show xs.getD (k - 1) 0 = xs[k - 1] by rw [List.getD_eq_getElem?_getD, List.getElem?_eq_getElem hlt3]; rfl)
              have ei : ((k : Int) - 1).toNat = k - 1 := by omega
              have e2 : IntKind.i64.wrap ((k : Int) - 1) = (k : Int) - 1 := IntWalk.i64_in _ (by omega)
              have e3 : (0 : Int) ≤ (k : Int) - 1 := by omega
              have e3' : (1 : Int) ≤ (k : Int) := by omega
              have e4 : (k : Int) - 1 < (xs.length : Int) := by omega
              have e6 : decide (0 < k) = true := by simp; omega
              have e7 : decide ((0 : Int) < (k : Int)) = true := by simp; omega
              clear hc
              by_cases hle : xs[k] ≤ xs[k - 1]
              · have E := Lib.hid (show F = 5 by rw [← hu.out, HS.out, if_pos hd, HG.out, if_pos ⟨h0, hle⟩])
                have t1 : decide (xs[k] ≤ xs[k - 1]) = true := by simp [hle]
                clear hle
                go_wp2_with (go_at_call 52; refine (isDigest_any _ _).mono ?_; rintro e w' ⟨rfl, rfl⟩)
                go_ret
                exact ⟨ret_int E.out.symm, by go_grown⟩
              · have E := Lib.hid (show Pl.usedAt xs (xs.length - (k + 1)) (k + 1) = F by rw [← hu.out, HS.out, if_pos hd, HG.out, if_neg (fun h => hle h.2)])
                have t1 : decide (xs[k] ≤ xs[k - 1]) = false := by simp; omega
                clear hle
                go_wp2_with (go_at_call 52; refine (isDigest_any _ _).mono ?_; rintro e w' ⟨rfl, rfl⟩)
                go_round
                case rel => exact ⟨k + 1, hlt2, by go_num, E.out⟩
                case measure => simp [intOf]; omega
            · have E := Lib.hid (show Pl.usedAt xs (xs.length - (k + 1)) (k + 1) = F by rw [← hu.out, HS.out, if_pos hd, if_neg (fun h => h0 h.1)])
              have e6 : decide (0 < k) = false := by simp; omega
              have e7 : decide ((0 : Int) < (k : Int)) = false := by simp; omega
              clear hc
              go_wp2_with (go_at_call 52; refine (isDigest_any _ _).mono ?_; rintro e w' ⟨rfl, rfl⟩)
              go_round
              case rel => exact ⟨k + 1, hlt2, by go_num, E.out⟩
              case measure => simp [intOf]; omega
          · have hd : Pl.isDigestB xs[k] = false := by simpa using hd
            have E := Lib.hid (show F = 5 by rw [← hu.out, HS.out, hd]; rfl)
            clear hc
            go_wp2_with (go_at_call 52; refine (isDigest_any _ _).mono ?_; rintro e w' ⟨rfl, rfl⟩)
            go_ret
            exact ⟨ret_int E.out.symm, by go_grown⟩
        · have hk2 : k = xs.length := by omega
          have E := Lib.hid (show F = 0 by rw [← hu.out, hk2, Pl.usedAt_end])
          have t5 : decide (k < xs.length) = false := by simp; omega
          clear hk2
          go_wp2_with fail
          go_ret
          exact ⟨ret_int E.out.symm, by go_grown⟩
  · have e1 : Pl.usedC xs = 2 := by simp [Pl.usedC, hn]
    rw [e1]
    go_enter Try.func53, Try.ntmps53
    go_wp2
    go_ret
    exact ⟨rfl, by go_grown⟩
end Go.Proofs.Ytkhkijpkgogncaa
