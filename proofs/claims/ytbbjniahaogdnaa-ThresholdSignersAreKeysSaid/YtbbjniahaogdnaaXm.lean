/- The law ThresholdSignersAreKeys returns true. -/
import Derived.Test.YtbbjniahaogdnaaXl
namespace Go.Proofs.Ytbbjniahaogdnaa
open Go.RowKit

namespace Pl
def sigOkB (l : List UInt8) (N : Int) (s : Int × Int) : Bool := (signS N l == s.2) && (s.1 == N)
theorem sigOkB_any (l : List UInt8) (sg : List (Int × Int)) (N : Int) : sg.any (sigOkB l N) = hasSigned l sg N := by
  unfold hasSigned
  congr 1
  funext s
  unfold sigOkB
  rw [Bool.eq_iff_iff]
  simp only [Bool.and_eq_true, beq_iff_eq]
  constructor
  · rintro ⟨h1, h2⟩; subst h2; exact ⟨rfl, h1.symm⟩
  · rintro ⟨h1, h2⟩; subst h1; exact ⟨h2.symm, rfl⟩
theorem signers_inc {xs : List Int} (h : Keys xs) (l : List UInt8) (sg : List (Int × Int)) (i : Nat) (hi : i < (signers xs l sg).length) (h0 : 0 < i) : (signers xs l sg)[i - 1]'(by omega) < (signers xs l sg)[i] := by
  have hp : (signers xs l sg).Pairwise (· < ·) := h.pairwise.filter _
  exact List.pairwise_iff_getElem.1 hp (i - 1) i (by omega) hi (by omega)
end Pl

theorem ThresholdSignersAreKeys_no (xs : List Int) (l : List UInt8) (sg : List (Int × Int)) (oa ob oc : Option Addr) (ca cb cc : Nat) (w : World) (hs : Sl w oa xs.length ca 1 (intVals xs)) (hm : xs.length ≤ 9223372036854775807)
    (hb : Sl w ob l.length cb 1 (byteVals l)) (hm2 : l.length ≤ 9223372036854775807) (hg : Sl w oc sg.length cc 2 (pairVals sg)) (hm3 : sg.length ≤ 9223372036854775807)
    (ht : (Pl.sigF xs l.length sg).1 ≠ 0) :
    Calls Try.prog 12 #[.slice oa xs.length ca, .slice ob l.length cb, .slice oc sg.length cc] w fun e w' => e = .returned (.bool true) ∧ Below w.heap.size w w' := by
  have hV : Pl.signersV xs l sg = [] := by unfold Pl.signersV; rw [if_neg ht]
  obtain ⟨T, hT⟩ : ∃ T, Pl.sigF xs l.length sg = T := ⟨_, rfl⟩
  rw [hT] at ht
  have t2 : (T.1 != 0) = true := by simp [ht]
  replace hT := Lib.hid hT
  replace hV := Lib.hid hV
  clear ht
  go_enter Try.func12, Try.ntmps12
  go_wp2_with fail
  refine (Signers_any xs l sg oa ob oc ca cb cc _ (hs.below (by go_grown) (Nat.le_refl _)) hm (hb.below (by go_grown) (Nat.le_refl _)) hm2 (hg.below (by go_grown) (Nat.le_refl _)) hm3).mono ?_
  rintro e w1 ⟨o1, c1, rfl, own1, hb1⟩
  rw [hT.out, hV.out]
  clear own1
  have B1 : Below w.heap.size w w1 := bcall (by go_grown) hb1 (by go_size)
  have s1 := B1.size
  have q1 : w.heap.size ≤ w1.heap.size := by have h := hb1.size; first | omega | (simp at h; omega)
  clear hb1
  go_wp2_with fail
  refine (accepts_any _).mono ?_
  rintro e w2 ⟨rfl, hb2⟩
  have B2 : Below w.heap.size w w2 := bcall (by go_grown) hb2 (by go_size)
  have s2 := B2.size
  have q2 : w1.heap.size + 1 ≤ w2.heap.size := by have h := hb2.size; first | omega | (simp at h; omega)
  obtain ⟨f0, f1, ff, fg, fl⟩ := (Box2.new w1 (.int .i64 T.1) (.int .i64 T.2) 26).below hb2 (by go_size)
  clear hb2
  go_wp2_with fail
  go_rounds 1
  go_ret
  exact ⟨ret_true (by simp), by go_grown⟩
set_option maxRecDepth 100000 in
set_option maxHeartbeats 1000000 in
theorem ThresholdSignersAreKeys_ok (xs : List Int) (l : List UInt8) (sg : List (Int × Int)) (oa ob oc : Option Addr) (ca cb cc : Nat) (w : World) (hs : Sl w oa xs.length ca 1 (intVals xs)) (hm : xs.length ≤ 9223372036854775807)
    (hb : Sl w ob l.length cb 1 (byteVals l)) (hm2 : l.length ≤ 9223372036854775807) (hg : Sl w oc sg.length cc 2 (pairVals sg)) (hm3 : sg.length ≤ 9223372036854775807)
    (ht : (Pl.sigF xs l.length sg).1 = 0) :
    Calls Try.prog 12 #[.slice oa xs.length ca, .slice ob l.length cb, .slice oc sg.length cc] w fun e w' => e = .returned (.bool true) ∧ Below w.heap.size w w' := by
  obtain ⟨hK, hn, hg24, hsb⟩ : Pl.Keys xs ∧ l.length ≤ 4096 ∧ sg.length ≤ 24 ∧ ∀ s ∈ sg, Pl.sigB s = true := by
    rcases Pl.sigF_cases xs l.length sg with ⟨_, _, h1, h2, h3, h4⟩ | h
    · exact ⟨h1, h2, h3, h4⟩
    · exact absurd ht h
  have hV : Pl.signersV xs l sg = Pl.signers xs l sg := by unfold Pl.signersV; rw [if_pos ht]
  obtain ⟨T, hT⟩ : ∃ T, Pl.sigF xs l.length sg = T := ⟨_, rfl⟩
  rw [hT] at ht
  have h12 := hK.len
  have hVi := Pl.signers_inc hK l sg
  have hVl : (Pl.signers xs l sg).length ≤ xs.length := by unfold Pl.signers; exact List.length_filter_le _ _
  have hVm : ∀ N ∈ Pl.signers xs l sg, N ∈ xs ∧ Pl.hasSigned l sg N = true := fun N h => by unfold Pl.signers at h; exact List.mem_filter.1 h
  obtain ⟨V, hVe⟩ : ∃ V, Pl.signers xs l sg = V := ⟨_, rfl⟩
  rw [hVe] at hV hVl
  have hVm' := Lib.hid hVm
  have t2 : (T.1 != 0) = false := by simp [ht]
  replace hT := Lib.hid hT
  replace hV := Lib.hid hV
  replace hVi := Lib.hid hVi
  replace hVe := Lib.hid hVe
  replace hK := Lib.hid hK
  replace hsb := Lib.hid hsb
  clear ht hVm
  go_enter Try.func12, Try.ntmps12
  go_wp2_with fail
  refine (Signers_any xs l sg oa ob oc ca cb cc _ (hs.below (by go_grown) (Nat.le_refl _)) hm (hb.below (by go_grown) (Nat.le_refl _)) hm2 (hg.below (by go_grown) (Nat.le_refl _)) hm3).mono ?_
  rintro e w1 ⟨o1, c1, rfl, own1, hb1⟩
  rw [hT.out, hV.out]
  rw [hV.out] at own1
  replace own1 := Sl.own own1
  have B1 : Below w.heap.size w w1 := bcall (by go_grown) hb1 (by go_size)
  have s1 := B1.size
  have q1 : w.heap.size ≤ w1.heap.size := by have h := hb1.size; first | omega | (simp at h; omega)
  clear hb1
  go_wp2_with fail
  refine (accepts_any _).mono ?_
  rintro e w2 ⟨rfl, hb2⟩
  have B2 : Below w.heap.size w w2 := bcall (by go_grown) hb2 (by go_size)
  have s2 := B2.size
  have q2 : w1.heap.size + 1 ≤ w2.heap.size := by have h := hb2.size; first | omega | (simp at h; omega)
  obtain ⟨f0, f1, ff, fg, fl⟩ := (Box2.new w1 (.int .i64 T.1) (.int .i64 T.2) 26).below hb2 (by go_size)
  replace own1 := (own1.below (by go_grown) (Nat.le_refl _)).below hb2 (Nat.le_refl _)
  clear hb2
  go_wp2_with fail
  go_loopw [9] (fun i wr => ∃ k : Nat, k ≤ V.length ∧ i = .int .i64 k ∧ Below w2.heap.size w2 wr) (fun i _ => V.length - (intOf i).toNat)
  case atStart => exact ⟨0, Nat.zero_le _, rfl, Below.refl _ _⟩
  case round =>
    obtain ⟨k, hk, rfl, hbr⟩ := hrel
    have Br := bcall B2 hbr s2
    have sr := Br.size
    have qr := hbr.size
    by_cases hkn : k < V.length
    · rcases own1.mem with h0 | ⟨b, off, rfl, hlt, hc⟩
      · exact absurd (by simpa [intVals] using h0 : V = []) (by intro h; rw [h] at hkn; simp at hkn)
      have hcell : w2.cell? ⟨b, off + k, none⟩ = some (.int .i64 V[k]) := hc k _ (intVals_get V k hkn)
      clear hc
      have hN := hVm'.out V[k] (by rw [hVe.out]; exact List.getElem_mem hkn)
      have hkey := Lib.hid (hK.out.mem hN.1)
      obtain ⟨N, hNe⟩ : ∃ N, V[k] = N := ⟨_, rfl⟩
      rw [hNe] at hN hkey hcell
      have hsig := Lib.hid hN.2
      have hmem := Lib.hid hN.1
      have HNe := Lib.hid hNe
      clear hN hNe
      obtain ⟨wo, rfl⟩ : ∃ wo : World, wo = wr := ⟨_, rfl⟩
      go_wp2_with fail
      go_loopw [10, 11] (fun fd j wr => ∃ q : Nat, q ≤ sg.length ∧ j = .int .i64 q ∧ fd = .bool ((sg.take q).any (Pl.sigOkB l N)) ∧ Below w2.heap.size w2 wr) (fun _ j _ => sg.length - (intOf j).toNat)
      case atStart => exact ⟨0, Nat.zero_le _, rfl, rfl, hbr⟩
      case round =>
        obtain ⟨q, hq, rfl, rfl, hbi⟩ := hrel
        have Bi := bcall B2 hbi s2
        have si := Bi.size
        have qi := hbi.size
        have hcelli : wr.cell? ⟨b, off + k, none⟩ = some (.int .i64 N) := (hbi.cell (p := ⟨b, off + k, none⟩) hlt).trans hcell
        by_cases hqn : q < sg.length
        · rcases hg.mem with h0 | ⟨b2, off2, rfl, hltg, hcg⟩
          · have := pairVals_length sg
            rw [h0] at this
            simp at this
            omega
          obtain ⟨g0, g1⟩ := pairVals_get sg q hqn
          have e0 : wr.cell? ⟨b2, off2 + q * 2, none⟩ = some (.int .i64 sg[q].1) := by
            rw [Bi.cell (p := ⟨b2, off2 + q * 2, none⟩) hltg]
            exact hcg _ _ g0
          have e1 : wr.cell? ⟨b2, off2 + q * 2 + 1, none⟩ = some (.int .i64 sg[q].2) := by
            rw [Bi.cell (p := ⟨b2, off2 + q * 2 + 1, none⟩) hltg]
            exact hcg _ _ g1
          have hdg := Lib.hid (show Pl.isDigestB sg[q].2 = true by have := hsb.out sg[q] (List.getElem_mem hqn); unfold Pl.sigB at this; exact (Bool.and_eq_true_iff.1 this).2)
          have HT := Lib.hid (Pl.any_take_succ (Pl.sigOkB l N) sg q hqn)
          clear hcg g0 g1
          obtain ⟨⟨s1, s2'⟩, hse⟩ : ∃ s, sg[q] = s := ⟨_, rfl⟩
          rw [hse] at e0 e1 hdg HT
          clear hse
          generalize hA : (sg.take q).any (Pl.sigOkB l N) = Fd at *
          replace hA := Lib.hid hA
          have hltb : b < wr.heap.size := by omega
          have hltg2 : b2 < wr.heap.size := by omega
          have hqn2 : (q : Int) < (sg.length : Int) := by omega
          have hkn2 : (k : Int) < (V.length : Int) := by omega
          obtain ⟨R, hR⟩ : ∃ R, (Pl.signS N l == s2') = R := ⟨_, rfl⟩
          replace hR := Lib.hid hR
          have Bid := Bi.drew
          go_wp2_with fail
          refine wp_region_free [10, 14] [0, 1, 2, 3, 4, 5, 6, 7, 8, 9, 11, 12, 13, 15] [16]
            (fun i => [Hold.eq (.slice (some ⟨b, off, none⟩) V.length c1),
              Hold.eq (.int .i64 (k : Int)),
              Hold.eq (.pointer (some ⟨b, off + k, none⟩)),
              Hold.eq (.int .i64 N),
              Hold.eq (.slice ob l.length cb),
              Hold.eq (.slice (some ⟨b2, off2, none⟩) sg.length cc),
              Hold.eq (.int .i64 (q : Int)),
              Hold.eq (.pointer (some ⟨b2, off2 + q * 2, none⟩)),
              Hold.eq (.pointer (some ⟨b2, off2 + q * 2 + 1, none⟩)),
              Hold.eq (.int .i64 s2'),
              Hold.eq (.tuple #[.bool R, .agg #[.int .i64 0, .int .i64 0]]),
              Hold.eq (.tuple #[.bool R, .agg #[.int .i64 0, .int .i64 0]]),
              Hold.eq (.bool R),
              Hold.eq (.agg #[.int .i64 0, .int .i64 0]),
              Hold.box (wr.heap.size) (.int .i64 0) (.int .i64 0),
              Hold.eq (.bool R)].getD i Hold.any) (by kernel_rfl) (by kernel_rfl) ?_ ?_
          · refine ⟨stepOb_ca (by kernel_rfl) (by kernel_rfl) ?_, stepOb_mk (by kernel_rfl) (by kernel_rfl) ?_, stepOb_rd (by kernel_rfl) (by kernel_rfl) ?_, stepOb_rd (by kernel_rfl) (by kernel_rfl) ?_, stepOb_rd (by kernel_rfl) (by kernel_rfl) ?_, stepOb_rd (by kernel_rfl) (by kernel_rfl) ?_, stepOb_rd (by kernel_rfl) (by kernel_rfl) ?_, stepOb_rd (by kernel_rfl) (by kernel_rfl) ?_, stepOb_rd (by kernel_rfl) (by kernel_rfl) ?_, stepOb_rd (by kernel_rfl) (by kernel_rfl) ?_, stepOb_rd (by kernel_rfl) (by kernel_rfl) ?_, stepOb_rd (by kernel_rfl) (by kernel_rfl) ?_, stepOb_rd (by kernel_rfl) (by kernel_rfl) ?_, stepOb_rd (by kernel_rfl) (by kernel_rfl) ?_, stepOb_rd (by kernel_rfl) (by kernel_rfl) ?_, stepOb_rd (by kernel_rfl) (by kernel_rfl) ?_, trivial⟩
            all_goals (intro A x wx F hbx hd; replace hbx := Lib.hid hbx)
            · have e0 := F.get (d := 49) 3 rfl rfl (by simp) (hd 3 rfl)
              have e1 := F.get (d := 50) 4 rfl rfl (by simp) (hd 4 rfl)
              have e2 := F.get (d := 55) 9 rfl rfl (by simp) (hd 9 rfl)
              refine ⟨_, 22, #[.int .i64 N, .slice ob l.length cb, .int .i64 s2'], rfl, by simp [go_sem, e0.1, e0.2, e1.1, e1.2, e2.1, e2.2], ?_⟩
              skip
              refine (Verify_ok N s2' l ob cb _ (hb.below (bcall Bid hbx.out (by go_size)) (Nat.le_refl _)) hkey.out hn hdg.out).mono ?_
              rw [hR.out]
              rintro e w' ⟨rfl, hb'⟩
              exact ⟨_, rfl, hb', rfl⟩
            · exact ⟨_, .pointer (some ⟨wx.heap.size, 0, none⟩), wx.alloc (.cells #[.int .i64 0, .int .i64 0] 26), rfl, by simp [go_sem], Below.ext ((Below.refl _ _).alloc (Nat.le_refl _) _), hbx.out.alloc hbx.out.size _, _, rfl, by have := hbx.out.size; first | exact this | (simp at this; omega), Box2.new _ _ _ _⟩
            · have e0 := F.was (d := 7) (v := .slice (some ⟨b, off, none⟩) V.length c1) rfl rfl
              exact ⟨_, _, rfl, fun w' hx => by simp [go_sem, e0.1, e0.2], rfl⟩
            · have e0 := F.was (d := 9) (v := .int .i64 (k : Int)) rfl rfl
              exact ⟨_, _, rfl, fun w' hx => by simp [go_sem, e0.1, e0.2], rfl⟩
            · have e0 := F.get (d := 46) 0 rfl rfl (by simp) (hd 0 rfl)
              have e1 := F.get (d := 47) 1 rfl rfl (by simp) (hd 1 rfl)
              exact ⟨_, _, rfl, fun w' hx => by simp [go_sem, e0.1, e0.2, e1.1, e1.2, hkn, hkn2, Nat.not_le.2 hkn], rfl⟩
            · have e0 := F.get (d := 48) 2 rfl rfl (by simp) (hd 2 rfl)
              have g0 := hbx.out
              refine ⟨_, _, rfl, fun w' hx => ?_, rfl⟩
              have r0 := hx.cell _ _ ((g0.cell (p := ⟨b, off + k, none⟩) (by go_size)).trans (by simpa using hcelli))
              simp [go_sem, e0.1, e0.2, r0]
            · have e0 := F.was (d := 1) (v := .slice ob l.length cb) rfl rfl
              exact ⟨_, _, rfl, fun w' hx => by simp [go_sem, e0.1, e0.2], rfl⟩
            · have e0 := F.was (d := 2) (v := .slice (some ⟨b2, off2, none⟩) sg.length cc) rfl rfl
              exact ⟨_, _, rfl, fun w' hx => by simp [go_sem, e0.1, e0.2], rfl⟩
            · have e0 := F.was (d := 11) (v := .int .i64 (q : Int)) rfl rfl
              exact ⟨_, _, rfl, fun w' hx => by simp [go_sem, e0.1, e0.2], rfl⟩
            · have e0 := F.get (d := 51) 5 rfl rfl (by simp) (hd 5 rfl)
              have e1 := F.get (d := 52) 6 rfl rfl (by simp) (hd 6 rfl)
              exact ⟨_, _, rfl, fun w' hx => by simp [go_sem, e0.1, e0.2, e1.1, e1.2, hqn, hqn2, Nat.not_le.2 hqn], rfl⟩
            · have e0 := F.get (d := 53) 7 rfl rfl (by simp) (hd 7 rfl)
              exact ⟨_, _, rfl, fun w' hx => by simp [go_sem, e0.1, e0.2], rfl⟩
            · have e0 := F.get (d := 54) 8 rfl rfl (by simp) (hd 8 rfl)
              have g0 := hbx.out
              refine ⟨_, _, rfl, fun w' hx => ?_, rfl⟩
              have r0 := hx.cell _ _ ((g0.cell (p := ⟨b2, off2 + q * 2 + 1, none⟩) (by go_size)).trans (by simpa using e1))
              simp [go_sem, e0.1, e0.2, r0]
            · have e0 := F.get (d := 56) 10 rfl rfl (by simp) (hd 10 rfl)
              exact ⟨_, _, rfl, fun w' hx => by simp [go_sem, e0.1, e0.2], rfl⟩
            · have e0 := F.get (d := 45) 11 rfl rfl (by simp) (hd 11 rfl)
              exact ⟨_, _, rfl, fun w' hx => by simp [go_sem, e0.1, e0.2], rfl⟩
            · have e0 := F.get (d := 45) 11 rfl rfl (by simp) (hd 11 rfl)
              exact ⟨_, _, rfl, fun w' hx => by simp [go_sem, e0.1, e0.2], rfl⟩
            · have e0 := F.get (d := 57) 12 rfl rfl (by simp) (hd 12 rfl)
              exact ⟨_, _, rfl, fun w' hx => by simp [go_sem, e0.1, e0.2], rfl⟩
          · intro x wx hbx hI
            obtain ⟨-, ⟨r, h14, hr, X2⟩, -, -, -, -, -, -, -, -, -, -, -, -, h13, h15, -⟩ := hI
            have h13 : x 13 = .agg #[.int .i64 0, .int .i64 0] := h13
            have h15 : x 15 = .bool R := h15
            obtain ⟨c0, c1, f0, f1, l1⟩ := X2
            simp only [actOf, Act.put, List.setIfInBounds_toArray, List.set_cons_succ, List.set_cons_zero, Nat.zero_add, Nat.reduceAdd, h13, h14, h15]
            refine wpI_st rfl rfl rfl (w' := wx) (by simp [go_sem, c0, c1, f0, f1, l1]; simp [setCell_id, c0, c1]) ?_
            refine wpI_nil ?_
            simp only [Act.put]
            have Bx : Below w2.heap.size w2 wx := bcall hbi.drew hbx (by go_size)
            have Bx2 : Below wr.heap.size wr wx := bcall (Below.refl _ _).drew hbx (by go_size)
            have hcellx : wx.cell? ⟨b, off + k, none⟩ = some (.int .i64 N) := (Bx2.cell (p := ⟨b, off + k, none⟩) hltb).trans hcelli
            have e0x : wx.cell? ⟨b2, off2 + q * 2, none⟩ = some (.int .i64 s1) := (Bx2.cell (p := ⟨b2, off2 + q * 2, none⟩) hltg2).trans e0
            have hk0 : (0 : Int) ≤ (k : Int) := by omega
            have hq0 : (0 : Int) ≤ (q : Int) := by omega
            clear hr hbx h13 h15 h14 e0 e1 hcelli Bx2 hcell
            have fin : Pl.sigOkB l N (s1, s2') = (R && (s1 == N)) := by unfold Pl.sigOkB; rw [hR.out]
            rw [fin] at HT
            skip
            clear fin
            cases Fd
            · cases R
              · go_wp2_with fail
                go_quiet (fail)
                go_wp2_with fail
                go_roundw
                case rel => exact ⟨q + 1, hqn, by go_num, by rw [HT.out]; rfl, below_drewN Bx _⟩
                case measure => (simp [intOf]; try omega)
              · cases hks : (s1 == N)
                · go_wp2_with fail
                  go_quiet (fail)
                  go_wp2_with fail
                  go_roundw
                  case rel => exact ⟨q + 1, hqn, by go_num, by rw [HT.out, hks]; rfl, below_drewN Bx _⟩
                  case measure => (simp [intOf]; try omega)
                · go_wp2_with fail
                  go_quiet (fail)
                  go_wp2_with fail
                  go_roundw
                  case rel => exact ⟨q + 1, hqn, by go_num, by rw [HT.out, hks]; rfl, below_drewN Bx _⟩
                  case measure => (simp [intOf]; try omega)
            · go_wp2_with fail
              go_quiet (fail)
              go_wp2_with fail
              go_roundw
              case rel => exact ⟨q + 1, hqn, by go_num, by rw [HT.out]; rfl, below_drewN Bx _⟩
              case measure => (simp [intOf]; try omega)
        · obtain rfl : q = sg.length := by omega
          rw [List.take_length, Pl.sigOkB_any, hsig.out]
          have hk0 : (0 : Int) ≤ (k : Int) := by omega
          have hkn2 : (k : Int) < (V.length : Int) := by omega
          have hltb : b < wr.heap.size := by omega
          have hmB := Lib.hid (show decide (N ∈ xs) = true by simp [hmem.out])
          have HH := Lib.hid (show ∀ n, Calls Try.prog 33 #[.slice oa xs.length ca, .int .i64 N] (wr.drewN n) fun e w' => e = .returned (.bool true) ∧ wr.drewN n = w' from fun n => by
            have h := Has_any xs N oa ca _ (hs.below (below_drewN Bi n) (Nat.le_refl _)) hm
            rwa [hmB.out] at h)
          clear hcell hqn hq
          by_cases h0 : 0 < k
          · have t1 : decide ((0 : Int) < (k : Int)) = true := by simp; omega
            have t0 : decide ((k : Int) > 0) = true := by simp; omega
            have hk1 : k - 1 < V.length := by omega
            have hcell2 : wr.cell? ⟨b, off + (k - 1), none⟩ = some (.int .i64 V[k - 1]) := by
              rw [hbi.cell (p := ⟨b, off + (k - 1), none⟩) hlt]
              obtain ⟨-, -, -, m⟩ := own1
              rcases m with h | ⟨b', off', h, _, hc⟩
              · exact absurd (by simpa [intVals] using h : V = []) (by intro h; rw [h] at hkn; simp at hkn)
              · cases h
                exact hc (k - 1) _ (intVals_get V (k - 1) hk1)
            have hinc : V[k - 1] < N := by
              have h := hVi.out k (by rw [hVe.out]; exact hkn) h0
              simp only [hVe.out, HNe.out] at h
              exact h
            generalize hV1 : V[k - 1] = V1 at *
            replace hV1 := Lib.hid hV1
            have t2 : decide (N ≤ V1) = false := by simp; omega
            have ei : ((k : Int) - 1).toNat = k - 1 := by omega
            have e2 : IntKind.i64.wrap ((k : Int) - 1) = (k : Int) - 1 := IntWalk.i64_in _ (by omega)
            have e3 : (0 : Int) ≤ (k : Int) - 1 := by omega
            have e3' : (1 : Int) ≤ (k : Int) := by omega
            have e4 : (k : Int) - 1 < (V.length : Int) := by omega
            go_wp2_with fail
            go_quiet ((go_at_call 33; exact quiet_eq (HH.out _)))
            clear ei e2 e3 e3' e4
            go_wp2_with fail
            go_roundw
            case rel => exact ⟨k + 1, hkn, by go_num, below_drewN hbi _⟩
            case measure => (simp [intOf]; try omega)
          · have t1 : decide ((0 : Int) < (k : Int)) = false := by simp; omega
            go_wp2_with fail
            go_quiet ((go_at_call 33; exact quiet_eq (HH.out _)))
            go_wp2_with fail
            go_roundw
            case rel => exact ⟨k + 1, hkn, by go_num, below_drewN hbi _⟩
            case measure => (simp [intOf]; try omega)
    · obtain rfl : k = V.length := by omega
      go_wp2_with fail
      go_ret
      exact ⟨ret_true (by simp), by go_grown⟩
theorem ThresholdSignersAreKeys_main (xs : List Int) (l : List UInt8) (sg : List (Int × Int)) (oa ob oc : Option Addr) (ca cb cc : Nat) (w : World) (hs : Sl w oa xs.length ca 1 (intVals xs)) (hm : xs.length ≤ 9223372036854775807)
    (hb : Sl w ob l.length cb 1 (byteVals l)) (hm2 : l.length ≤ 9223372036854775807) (hg : Sl w oc sg.length cc 2 (pairVals sg)) (hm3 : sg.length ≤ 9223372036854775807) :
    Calls Try.prog 12 #[.slice oa xs.length ca, .slice ob l.length cb, .slice oc sg.length cc] w fun e w' => e = .returned (.bool true) ∧ Below w.heap.size w w' := by
  by_cases ht : (Pl.sigF xs l.length sg).1 = 0
  · exact ThresholdSignersAreKeys_ok xs l sg oa ob oc ca cb cc w hs hm hb hm2 hg hm3 ht
  · exact ThresholdSignersAreKeys_no xs l sg oa ob oc ca cb cc w hs hm hb hm2 hg hm3 ht
end Go.Proofs.Ytbbjniahaogdnaa
