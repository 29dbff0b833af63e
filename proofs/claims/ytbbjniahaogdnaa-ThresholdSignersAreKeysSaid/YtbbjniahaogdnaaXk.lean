/- The law ThresholdIgnoresOrderAndRepetition returns true. -/
import Derived.Test.YtbbjniahaogdnaaXj
namespace Go.Proofs.Ytbbjniahaogdnaa
open Go.RowKit

theorem Pl.rev_step (sg : List (Int × Int)) (j : Nat) (h : j < sg.length) : (sg.drop j).reverse = (sg.drop (j + 1)).reverse ++ [sg[j]] := by
  rw [List.drop_eq_getElem_cons h, List.reverse_cons]

set_option maxHeartbeats 400000 in
theorem ThresholdIgnoresOrderAndRepetition_main (i : Int) (xs : List Int) (l : List UInt8) (sg : List (Int × Int)) (oa ob oc : Option Addr) (ca cb cc : Nat) (w : World) (hs : Sl w oa xs.length ca 1 (intVals xs)) (hm : xs.length ≤ 9223372036854775807)
    (hb : Sl w ob l.length cb 1 (byteVals l)) (hm2 : l.length ≤ 9223372036854775807) (hg : Sl w oc sg.length cc 2 (pairVals sg)) (hm3 : sg.length ≤ 9223372036854775807) :
    Calls Try.prog 10 #[.slice oa xs.length ca, .slice ob l.length cb, .slice oc sg.length cc, .int .i64 i] w fun e w' => e = .returned (.bool true) ∧ Below w.heap.size w w' := by
  by_cases hn : sg.length ≤ 23
  · have e0 : decide ((sg.length : Int) > 23) = false := by simp; omega
    go_enter Try.func10, Try.ntmps10
    go_wp2_with fail
    refine (accepts_any _).mono ?_
    rintro e w1 ⟨rfl, hb1⟩
    have B1 : Below w.heap.size w w1 := bcall (by go_grown) hb1 (by go_size)
    have s1 := B1.size
    have q1 : w.heap.size ≤ w1.heap.size := by have h := hb1.size; first | omega | (simp at h; omega)
    clear hb1
    go_wp2_with fail
    go_loopw [9, 10] (fun v k wr => ∃ j : Nat, j ≤ sg.length ∧ k = .int .i64 ((j : Int) - 1) ∧ wr.ownsRow w.heap.size 54 2 v (sg.length - j) (pairVals (sg.drop j).reverse) ∧ Below w.heap.size w wr) (fun _ k _ => (intOf k + 1).toNat)
    case atStart => exact ⟨sg.length, Nat.le_refl _, by simp, by rw [Nat.sub_self, List.drop_length]; exact World.ownsRow_nil _ _ _ _, B1⟩
    case round =>
      obtain ⟨j, hj, hk, hown, hbr⟩ := hrel
      have sr := hbr.size
      rcases j with _ | j
      · have hk : u10 = .int .i64 (-1) := hk
        subst hk
        rw [List.drop_zero, Nat.sub_zero] at hown
        clear hj
        by_cases hi : Pl.inB i 0 ((sg.length : Int) - 1) = true
        · skip
          have hi2 := Pl.inB_true.1 hi
          obtain ⟨n, rfl⟩ := Int.eq_ofNat_of_zero_le hi2.1
          have hlt : n < sg.length := by omega
          rcases hg.mem with h0 | ⟨b2, off2, rfl, hltg, hcg⟩
          · have := pairVals_length sg
            rw [h0] at this
            simp at this
            omega
          obtain ⟨g0, g1⟩ := pairVals_get sg n hlt
          have e0 : wr.cell? ⟨b2, off2 + n * 2, none⟩ = some (.int .i64 sg[n].1) := by
            rw [hbr.cell (p := ⟨b2, off2 + n * 2, none⟩) hltg]
            exact hcg _ _ g0
          have e1 : wr.cell? ⟨b2, off2 + n * 2 + 1, none⟩ = some (.int .i64 sg[n].2) := by
            rw [hbr.cell (p := ⟨b2, off2 + n * 2 + 1, none⟩) hltg]
            exact hcg _ _ g1
          clear hcg g0 g1 hi2
          go_wp2_with fail
          refine (lin_any _ _ _ _).mono ?_
          rintro e w' ⟨rfl, rfl⟩
          have P := Pl.same_signers (xs := xs) (l := l) (a := sg) (b := sg.reverse ++ [sg[n]]) (by omega) (by simp; omega) (fun s => by simp only [List.mem_append, List.mem_reverse, List.mem_singleton]; exact ⟨fun h => .inl h, fun h => h.elim id fun e => e ▸ List.getElem_mem hlt⟩)
          obtain ⟨hE, hV⟩ := P
          have hVl := Pl.signersV_len xs l sg
          obtain ⟨S, hS⟩ : ∃ S, sg.reverse ++ [sg[n]] = S := ⟨_, rfl⟩
          have hSl : S.length ≤ 24 := by rw [← hS]; simp; omega
          rw [hS] at hE hV
          obtain ⟨F1, hF1⟩ : ∃ F, Pl.sigF xs l.length sg = F := ⟨_, rfl⟩
          obtain ⟨F2, hF2⟩ : ∃ F, Pl.sigF xs l.length S = F := ⟨_, rfl⟩
          obtain ⟨V, hV1⟩ : ∃ V, Pl.signersV xs l sg = V := ⟨_, rfl⟩
          have hV2 : Pl.signersV xs l S = V := hV.symm.trans hV1
          rw [hF1, hF2] at hE
          rw [hV1] at hVl
          clear hV
          have tE : ((F1.1 == 0) == (F2.1 == 0)) = true := by rw [beq_iff_eq, Bool.eq_iff_iff]; simpa using hE
          replace hE := Lib.hid hE
          replace hS := Lib.hid hS
          replace hF1 := Lib.hid hF1
          replace hF2 := Lib.hid hF2
          replace hV1 := Lib.hid hV1
          replace hV2 := Lib.hid hV2
          go_wp2_with (at_builtin; refine ap1 (by rfl) (by rfl) Try.tSigs hbr (by rfl) hown (m := 1) (by rfl) (by rfl) (by rfl) (by omega) sr ?_; intro v1 w2 hown2 B2 hsz1)
          have hown2 : w2.ownsRow w.heap.size 54 2 v1 S.length (pairVals S) := by
            rw [← hS.out, pairVals_append, List.length_append, List.length_reverse]
            exact hown2
          have s2 := B2.size
          obtain ⟨o0, c0, hv1⟩ := own_slice hown2
          subst hv1
          have slb := Sl.own hown2
          clear hown hown2
          refine (Signers_any xs l sg oa ob _ ca cb cc _ (hs.below (by go_grown) (Nat.le_refl _)) hm (hb.below (by go_grown) (Nat.le_refl _)) hm2 (hg.below (by go_grown) (Nat.le_refl _)) hm3).mono ?_
          rintro e w3 ⟨o1, c1, rfl, own1, hb3⟩
          rw [hF1.out, hV1.out]
          rw [hV1.out] at own1
          replace own1 := Sl.own own1
          have B3 : Below w.heap.size w w3 := bcall (by go_grown) hb3 (by go_size)
          have s3 := B3.size
          have q3 : w2.heap.size ≤ w3.heap.size := by have h := hb3.size; first | omega | (simp at h; omega)
          replace slb := slb.below hb3 (Nat.le_refl _)
          clear hb3
          go_wp2_with fail
          refine (Signers_any xs l S oa ob o0 ca cb c0 _ (hs.below (by go_grown) (Nat.le_refl _)) hm (hb.below (by go_grown) (Nat.le_refl _)) hm2 (slb.below (by go_grown) (Nat.le_refl _)) (by omega)).mono ?_
          rintro e w4 ⟨o2, c2, rfl, own2, hb4⟩
          rw [hF2.out, hV2.out]
          rw [hV2.out] at own2
          replace own2 := Sl.own own2
          have B4 : Below w.heap.size w w4 := bcall (by go_grown) hb4 (by go_size)
          have s4 := B4.size
          have q4 : w3.heap.size + 1 ≤ w4.heap.size := by have h := hb4.size; first | omega | (simp at h; omega)
          obtain ⟨f0, f1, ff, fg, fl⟩ := (Box2.new w3 (.int .i64 F1.1) (.int .i64 F1.2) 26).below hb4 (by go_size)
          replace slb := (slb.below (by go_grown) (Nat.le_refl _)).below hb4 (Nat.le_refl _)
          replace own1 := (own1.below (by go_grown) (Nat.le_refl _)).below hb4 (Nat.le_refl _)
          clear hb4
          go_wp2_with fail
          clear slb
          refine (Ints_any V V o1 o2 c1 c2 _ (own1.below (by go_grown) (Nat.le_refl _)) (own2.below (by go_grown) (Nat.le_refl _)) (by omega) (by omega)).mono ?_
          rw [show decide (V = V) = true from decide_eq_true rfl]
          rintro e w5 ⟨rfl, hb5⟩
          have B5 : Below w.heap.size w w5 := bcall (by go_grown) hb5 (by go_size)
          have s5 := B5.size
          have q5 : w4.heap.size + 1 ≤ w5.heap.size := by have h := hb5.size; first | omega | (simp at h; omega)
          obtain ⟨f0, f1, ff, fg, fl⟩ := ((Box2.mk f0 f1 ff fg fl).alloc (.cells #[(.int .i64 F2.1), (.int .i64 F2.2)] 26)).below hb5 (by go_size)
          obtain ⟨g0, g1, gf, gg, gl⟩ := (Box2.new w4 (.int .i64 F2.1) (.int .i64 F2.2) 26).below hb5 (by go_size)
          replace own1 := (own1.below (by go_grown) (Nat.le_refl _)).below hb5 (Nat.le_refl _)
          replace own2 := (own2.below (by go_grown) (Nat.le_refl _)).below hb5 (Nat.le_refl _)
          clear hb5
          go_wp2_with fail
          go_ret
          exact ⟨ret_true (by simp), by go_grown⟩
        · skip
          skip
          have P := Pl.same_signers (xs := xs) (l := l) (a := sg) (b := sg.reverse) (by omega) (by simp; omega) (fun s => by simp)
          obtain ⟨hE, hV⟩ := P
          have hVl := Pl.signersV_len xs l sg
          obtain ⟨S, hS⟩ : ∃ S, sg.reverse = S := ⟨_, rfl⟩
          have hSl : S.length ≤ 24 := by rw [← hS]; simp; omega
          rw [hS] at hE hV
          obtain ⟨F1, hF1⟩ : ∃ F, Pl.sigF xs l.length sg = F := ⟨_, rfl⟩
          obtain ⟨F2, hF2⟩ : ∃ F, Pl.sigF xs l.length S = F := ⟨_, rfl⟩
          obtain ⟨V, hV1⟩ : ∃ V, Pl.signersV xs l sg = V := ⟨_, rfl⟩
          have hV2 : Pl.signersV xs l S = V := hV.symm.trans hV1
          rw [hF1, hF2] at hE
          rw [hV1] at hVl
          clear hV
          have tE : ((F1.1 == 0) == (F2.1 == 0)) = true := by rw [beq_iff_eq, Bool.eq_iff_iff]; simpa using hE
          replace hE := Lib.hid hE
          replace hS := Lib.hid hS
          replace hF1 := Lib.hid hF1
          replace hF2 := Lib.hid hF2
          replace hV1 := Lib.hid hV1
          replace hV2 := Lib.hid hV2
          rw [← List.length_reverse, hS.out] at hown
          obtain ⟨o0, c0, rfl⟩ := own_slice hown
          have slb := Sl.own hown
          clear hown
          go_wp2_with fail
          refine (lin_any _ _ _ _).mono ?_
          rintro e w' ⟨rfl, rfl⟩
          go_wp2_with fail
          refine (Signers_any xs l sg oa ob _ ca cb cc _ (hs.below (by go_grown) (Nat.le_refl _)) hm (hb.below (by go_grown) (Nat.le_refl _)) hm2 (hg.below (by go_grown) (Nat.le_refl _)) hm3).mono ?_
          rintro e w3 ⟨o1, c1, rfl, own1, hb3⟩
          rw [hF1.out, hV1.out]
          rw [hV1.out] at own1
          replace own1 := Sl.own own1
          have B3 : Below w.heap.size w w3 := bcall (by go_grown) hb3 (by go_size)
          have s3 := B3.size
          have q3 : wr.heap.size ≤ w3.heap.size := by have h := hb3.size; first | omega | (simp at h; omega)
          replace slb := slb.below hb3 (Nat.le_refl _)
          clear hb3
          go_wp2_with fail
          refine (Signers_any xs l S oa ob o0 ca cb c0 _ (hs.below (by go_grown) (Nat.le_refl _)) hm (hb.below (by go_grown) (Nat.le_refl _)) hm2 (slb.below (by go_grown) (Nat.le_refl _)) (by omega)).mono ?_
          rintro e w4 ⟨o2, c2, rfl, own2, hb4⟩
          rw [hF2.out, hV2.out]
          rw [hV2.out] at own2
          replace own2 := Sl.own own2
          have B4 : Below w.heap.size w w4 := bcall (by go_grown) hb4 (by go_size)
          have s4 := B4.size
          have q4 : w3.heap.size + 1 ≤ w4.heap.size := by have h := hb4.size; first | omega | (simp at h; omega)
          obtain ⟨f0, f1, ff, fg, fl⟩ := (Box2.new w3 (.int .i64 F1.1) (.int .i64 F1.2) 26).below hb4 (by go_size)
          replace slb := (slb.below (by go_grown) (Nat.le_refl _)).below hb4 (Nat.le_refl _)
          replace own1 := (own1.below (by go_grown) (Nat.le_refl _)).below hb4 (Nat.le_refl _)
          clear hb4
          go_wp2_with fail
          clear slb
          refine (Ints_any V V o1 o2 c1 c2 _ (own1.below (by go_grown) (Nat.le_refl _)) (own2.below (by go_grown) (Nat.le_refl _)) (by omega) (by omega)).mono ?_
          rw [show decide (V = V) = true from decide_eq_true rfl]
          rintro e w5 ⟨rfl, hb5⟩
          have B5 : Below w.heap.size w w5 := bcall (by go_grown) hb5 (by go_size)
          have s5 := B5.size
          have q5 : w4.heap.size + 1 ≤ w5.heap.size := by have h := hb5.size; first | omega | (simp at h; omega)
          obtain ⟨f0, f1, ff, fg, fl⟩ := ((Box2.mk f0 f1 ff fg fl).alloc (.cells #[(.int .i64 F2.1), (.int .i64 F2.2)] 26)).below hb5 (by go_size)
          obtain ⟨g0, g1, gf, gg, gl⟩ := (Box2.new w4 (.int .i64 F2.1) (.int .i64 F2.2) 26).below hb5 (by go_size)
          replace own1 := (own1.below (by go_grown) (Nat.le_refl _)).below hb5 (Nat.le_refl _)
          replace own2 := (own2.below (by go_grown) (Nat.le_refl _)).below hb5 (Nat.le_refl _)
          clear hb5
          go_wp2_with fail
          go_ret
          exact ⟨ret_true (by simp), by go_grown⟩
      · rw [show ((j + 1 : Nat) : Int) - 1 = (j : Int) by omega] at hk
        subst hk
        have hlt : j < sg.length := hj
        rcases hg.mem with h0 | ⟨b2, off2, rfl, hltg, hcg⟩
        · have := pairVals_length sg
          rw [h0] at this
          simp at this
          omega
        · obtain ⟨g0, g1⟩ := pairVals_get sg j hlt
          have e0 : wr.cell? ⟨b2, off2 + j * 2, none⟩ = some (.int .i64 sg[j].1) := by
            rw [hbr.cell (p := ⟨b2, off2 + j * 2, none⟩) hltg]
            exact hcg _ _ g0
          have e1 : wr.cell? ⟨b2, off2 + j * 2 + 1, none⟩ = some (.int .i64 sg[j].2) := by
            rw [hbr.cell (p := ⟨b2, off2 + j * 2 + 1, none⟩) hltg]
            exact hcg _ _ g1
          have HS := Lib.hid (Pl.rev_step sg j hlt)
          have HL := Lib.hid (show sg.length - (j + 1) + 1 = sg.length - j by omega)
          clear hcg g0 g1
          go_wp2_with (at_builtin; refine ap1 (by rfl) (by rfl) Try.tSigs hbr (by rfl) hown (m := 1) (by rfl) (by rfl) (by rfl) (by omega) sr ?_; intro v1 w2 hown1 hb1 hsz1)
          go_roundw
          case rel => exact ⟨j, by omega, by go_num, by rw [HS.out, pairVals_append, ← HL.out]; exact hown1, hb1⟩
          case measure => (simp [intOf]; try omega)
  · have e1 : decide ((sg.length : Int) > 23) = true := by simp; omega
    go_enter Try.func10, Try.ntmps10
    go_wp2_with fail
    refine (accepts_any _).mono ?_
    rintro e w1 ⟨rfl, hb1⟩
    have B1 : Below w.heap.size w w1 := bcall (by go_grown) hb1 (by go_size)
    have s1 := B1.size
    have q1 : w.heap.size ≤ w1.heap.size := by have h := hb1.size; first | omega | (simp at h; omega)
    clear hb1
    go_wp2_with fail
    go_ret
    exact ⟨ret_true (by simp), by go_grown⟩
end Go.Proofs.Ytbbjniahaogdnaa
