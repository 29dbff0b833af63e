/- Contract: the reference's signers. -/
import Derived.Test.YtplcbhcbahiheaaXc
namespace Go.Proofs.Ytplcbhcbahiheaa
open Go.RowKit

namespace Pl
def signedBy (l : List UInt8) (k : Int) (s : Int × Int) : Bool := s.1 == k && s.2 == signS k l
theorem hasSigned_eq (l : List UInt8) (sg : List (Int × Int)) (k : Int) : hasSigned l sg k = sg.any (signedBy l k) := rfl
theorem any_take_succ {α : Type} (p : α → Bool) (xs : List α) (j : Nat) (h : j < xs.length) : (xs.take (j + 1)).any p = ((xs.take j).any p || p xs[j]) := by
  rw [List.take_succ_eq_append_getElem h, List.any_append]
  simp
theorem signers_take (xs : List Int) (l : List UInt8) (sg : List (Int × Int)) (k : Nat) (h : k < xs.length) : signers (xs.take (k + 1)) l sg = signers (xs.take k) l sg ++ (if hasSigned l sg xs[k] = true then [xs[k]] else []) := by
  unfold signers
  rw [List.take_succ_eq_append_getElem h, List.filter_append]
  congr 1
  by_cases hs : hasSigned l sg xs[k] = true <;> simp [hs]
theorem signers_le (xs : List Int) (l : List UInt8) (sg : List (Int × Int)) (k : Nat) : (signers (xs.take k) l sg).length ≤ k := Nat.le_trans (List.length_filter_le _ _) (List.length_take_le _ _)
end Pl

set_option maxHeartbeats 1000000 in
theorem RSigners_ok (xs : List Int) (l : List UInt8) (sg : List (Int × Int)) (oa ob oc : Option Addr) (ca cb cc : Nat) (w : World) (hs : Sl w oa xs.length ca 1 (intVals xs)) (hk : Pl.Keys xs)
    (hb : Sl w ob l.length cb 1 (byteVals l)) (hn : l.length ≤ 4096) (hg : Sl w oc sg.length cc 2 (pairVals sg)) (hm : sg.length ≤ 24) :
    Calls Try.prog 40 #[.slice oa xs.length ca, .slice ob l.length cb, .slice oc sg.length cc] w fun e w' => ∃ o c, e = .returned (.slice o (Pl.signers xs l sg).length c) ∧
      w'.ownsRow w.heap.size 3 1 (.slice o (Pl.signers xs l sg).length c) (Pl.signers xs l sg).length (intVals (Pl.signers xs l sg)) ∧ Below w.heap.size w w' := by
  have hl := hk.len
  rcases hs.mem with h0 | ⟨b, off, rfl, hlt, hc⟩
  · have hl0 : xs = [] := by simpa [intVals] using h0
    subst hl0
    go_enter Try.func40, Try.ntmps40
    go_wp2
    go_rounds 1
    go_ret
    exact ⟨none, 0, rfl, World.ownsRow_nil _ _ _ _, by go_grown⟩
  · clear hs
    have HK := Lib.hid hk
    clear hk
    go_enter Try.func40, Try.ntmps40
    go_wp2
    go_loopw [7, 8] (fun v i wr => ∃ k : Nat, k ≤ xs.length ∧ i = .int .i64 k ∧ wr.ownsRow w.heap.size 3 1 v (Pl.signers (xs.take k) l sg).length (intVals (Pl.signers (xs.take k) l sg)) ∧ Below w.heap.size w wr) (fun _ i _ => xs.length - (intOf i).toNat)
    case atStart => exact ⟨0, Nat.zero_le _, rfl, World.ownsRow_nil _ _ _ _, Below.refl _ _⟩
    case round =>
      obtain ⟨k, hk, rfl, hown, hbw⟩ := hrel
      have hsz := hbw.size
      by_cases hlt2 : k < xs.length
      · have hcell : wr.cell? ⟨b, off + k, none⟩ = some (.int .i64 xs[k]) := by
          rw [hbw.cell (p := ⟨b, off + k, none⟩) hlt]
          exact hc k _ (intVals_get xs k hlt2)
        have hkey := Lib.hid (HK.out.mem (List.getElem_mem hlt2))
        have HS := Lib.hid (Pl.signers_take xs l sg k hlt2)
        have hle := Pl.signers_le xs l sg k
        clear hc
        obtain ⟨wo, rfl⟩ : ∃ wo : World, wo = wr := ⟨_, rfl⟩
        generalize hN : xs[k] = N at *
        have HN := Lib.hid hN
        clear hN
        have hb2 := hb.below hbw (Nat.le_refl _)
        have hg2 := hg.below hbw (Nat.le_refl _)
        go_wp2_with fail
        go_loopw [9, 10] (fun v j wr => ∃ (q : Nat) (t : Bool), q ≤ sg.length ∧ j = .int .i64 q ∧ v = .bool t ∧ Hid (t = (sg.take q).any (Pl.signedBy l N)) ∧ Below wo.heap.size wo wr) (fun _ j _ => sg.length - (intOf j).toNat)
        case atStart => exact ⟨0, false, Nat.zero_le _, rfl, rfl, rfl, Below.refl _ _⟩
        case round =>
          obtain ⟨q, t, hq, rfl, rfl, ht, hbi⟩ := hrel
          have hsi := hbi.size
          by_cases hlt3 : q < sg.length
          · rcases hg2.mem with h0 | ⟨b2, off2, rfl, hltg, hcg⟩
            · have := pairVals_length sg
              rw [h0] at this
              simp at this
              omega
            · obtain ⟨g0, g1⟩ := pairVals_get sg q hlt3
              have HT := Lib.hid (Pl.any_take_succ (Pl.signedBy l N) sg q hlt3)
              have e0 : wr.drew.cell? ⟨b2, off2 + q * 2, none⟩ = some (.int .i64 sg[q].1) := by
                rw [World.cell?_drew, hbi.cell (p := ⟨b2, off2 + q * 2, none⟩) hltg]
                exact hcg _ _ g0
              have e1 : wr.drew.cell? ⟨b2, off2 + q * 2 + 1, none⟩ = some (.int .i64 sg[q].2) := by
                rw [World.cell?_drew, hbi.cell (p := ⟨b2, off2 + q * 2 + 1, none⟩) hltg]
                exact hcg _ _ g1
              have e2 : wr.drew.cell? ⟨b, off + k, none⟩ = some (.int .i64 N) := by
                rw [World.cell?_drew, hbi.cell (p := ⟨b, off + k, none⟩) (World.block_lt_of_cell? wo _ hcell)]
                exact hcell
              clear hcg g0 g1
              have i1 : (0 : Int) ≤ (q : Int) := by omega
              have i2 : (q : Int) < (sg.length : Int) := by omega
              have i3 : (0 : Int) ≤ (k : Int) := by omega
              have i4 : (k : Int) < (xs.length : Int) := by omega
              have hbd := hbi.drew
              go_wp2_with fail
              generalize hW : wr.drew = W at *
              cases t with
              | true =>
                refine wp_region_ord [0, 1, 2, 3, 4, 5, 6, 7, 8, 9, 10, 11, 12, 13, 14, 15, 16, 17, 18, 19, 20, 21, 22, 23, 24, 25, 26, 27] (by kernel_rfl) (by kernel_rfl) ?_
                rw [hW]
                clear hW
                repeat (refine wpI_rd rfl rfl ?_; go_big_quiet_step (fail); refine wpQuiet_nil ?_)
                refine wpI_skip rfl rfl ?_
                simp only [Act.put, List.setIfInBounds_toArray, List.set_cons_zero, List.set_cons_succ]
                repeat (refine wpI_rd rfl rfl ?_; go_big_quiet_step (fail); refine wpQuiet_nil ?_)
                refine wpI_nil ?_
                go_wp2_with fail
                go_roundw
                case rel => exact ⟨q + 1, true, hlt3, by go_num, rfl, by show true = _; rw [HT.out, ← ht.out]; rfl, hbd⟩
                case measure => simp [intOf]; omega
              | false =>
                by_cases hke : sg[q].1 = N
                · have tk : (sg[q].1 == N) = true := by simp [hke]
                  have Hke := Lib.hid hke
                  clear hke
                  refine wp_region_ord [0, 1, 2, 3, 4, 5, 6, 7, 8, 9, 10, 11, 12, 13, 14, 15, 16, 17, 18, 19, 20, 21, 22, 23, 24, 25, 26, 27] (by kernel_rfl) (by kernel_rfl) ?_
                  rw [hW]
                  clear hW
                  repeat (refine wpI_rd rfl rfl ?_; go_big_quiet_step (fail); refine wpQuiet_nil ?_)
                  refine wpI_call (f := 67) (args := #[.int .i64 N, .slice ob l.length cb]) rfl rfl rfl (by simp [go_sem]) ?_
                  refine (RSign_ok N l ob cb _ (hb2.below hbd (Nat.le_refl _)) hkey.out (by omega)).mono ?_
                  rintro e w5 ⟨rfl, hb5⟩
                  refine ⟨_, rfl, hb5, ?_⟩
                  simp only [Act.put, List.setIfInBounds_toArray, List.set_cons_zero, List.set_cons_succ]
                  repeat (refine wpI_rd rfl rfl ?_; go_big_quiet_step (fail); refine wpQuiet_nil ?_)
                  refine wpI_nil ?_
                  have hb6 := bcall hbd hb5 hbd.size
                  go_wp2_with fail
                  go_roundw
                  case rel => exact ⟨q + 1, _, hlt3, by go_num, rfl, by show _ = _; rw [HT.out, ← ht.out]; unfold Pl.signedBy; rw [tk]; simp, hb6⟩
                  case measure => simp [intOf]; omega
                · have tk : (sg[q].1 == N) = false := by simp [hke]
                  clear hke
                  refine wp_region_ord [0, 1, 2, 3, 4, 5, 6, 7, 8, 9, 10, 11, 12, 13, 14, 15, 16, 17, 18, 19, 20, 21, 22, 23, 24, 25, 26, 27] (by kernel_rfl) (by kernel_rfl) ?_
                  rw [hW]
                  clear hW
                  repeat (refine wpI_rd rfl rfl ?_; go_big_quiet_step (fail); refine wpQuiet_nil ?_)
                  refine wpI_skip rfl rfl ?_
                  simp only [Act.put, List.setIfInBounds_toArray, List.set_cons_zero, List.set_cons_succ]
                  repeat (refine wpI_rd rfl rfl ?_; go_big_quiet_step (fail); refine wpQuiet_nil ?_)
                  refine wpI_nil ?_
                  go_wp2_with fail
                  go_roundw
                  case rel => exact ⟨q + 1, false, hlt3, by go_num, rfl, by show false = _; rw [HT.out, ← ht.out]; unfold Pl.signedBy; rw [tk]; rfl, hbd⟩
                  case measure => simp [intOf]; omega
          · have hq2 : q = sg.length := by omega
            have HA := Lib.hid (show t = Pl.hasSigned l sg N by rw [ht.out, hq2, List.take_length]; rfl)
            clear hq2 ht
            have B3 := bcall hbw hbi hsz
            have s3 := B3.size
            have hown3 := ownsRow_below hown hbi (Nat.le_refl _)
            have hcell3 : wr.cell? ⟨b, off + k, none⟩ = some (.int .i64 N) := by
              rw [hbi.cell (p := ⟨b, off + k, none⟩) (World.block_lt_of_cell? wo _ hcell)]
              exact hcell
            clear hown hcell
            cases t with
            | true =>
              go_wp2_with (at_builtin; refine ap1 (by rfl) (by rfl) Try.tInts B3 (by rfl) hown3 (m := 1) (by rfl) (by rfl) (by rfl) (by omega) s3 ?_; intro v1 w4 hown4 hb4 hsz4)
              go_roundw
              case rel => exact ⟨k + 1, hlt2, by go_num, by rw [HS.out, if_pos HA.out.symm, intVals_append, List.length_append]; exact hown4, hb4⟩
              case measure => simp [intOf]; omega
            | false =>
              go_wp2_with fail
              go_roundw
              case rel => exact ⟨k + 1, hlt2, by go_num, by rw [HS.out, if_neg (by rw [← HA.out]; decide), List.append_nil]; exact hown3, B3⟩
              case measure => simp [intOf]; omega
      · obtain rfl : k = xs.length := by omega
        rw [List.take_length] at hown
        obtain ⟨oa2, cap2, hv⟩ := own_slice hown
        rw [hv] at hown ⊢
        clear hv
        go_wp2_with fail
        go_ret
        exact ⟨oa2, cap2, rfl, hown, hbw⟩
end Go.Proofs.Ytplcbhcbahiheaa
