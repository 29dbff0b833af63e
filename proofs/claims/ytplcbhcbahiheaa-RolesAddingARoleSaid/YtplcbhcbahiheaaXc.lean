/- Contract: the fault of signatures. -/
import Derived.Test.YtplcbhcbahiheaaXb
namespace Go.Proofs.Ytplcbhcbahiheaa
open Go.RowKit

theorem pairVals_length (l : List (Int × Int)) : (pairVals l).length = l.length * 2 := by
  induction l with
  | nil => rfl
  | cons s l ih => simp only [pairVals, List.flatMap_cons, List.length_append, List.length_cons, List.length_nil] at *; omega
theorem pairVals_get : ∀ (l : List (Int × Int)) (k : Nat) (h : k < l.length), (pairVals l)[k * 2]? = some (.int .i64 l[k].1) ∧ (pairVals l)[k * 2 + 1]? = some (.int .i64 l[k].2)
  | s :: l, 0, _ => by simp [pairVals]
  | s :: l, k + 1, h => by
    have := pairVals_get l k (by simpa using h)
    have e : pairVals (s :: l) = [.int .i64 s.1, .int .i64 s.2] ++ pairVals l := by simp [pairVals]
    rw [e, show (k + 1) * 2 = k * 2 + 2 by omega, List.getElem?_append_right (by simp), List.getElem?_append_right (by simp)]
    simpa using this

set_option maxHeartbeats 400000 in
theorem SignersFault_any (xs : List Int) (n : Nat) (sg : List (Int × Int)) (oa ob oc : Option Addr) (ca cb cc : Nat) (w : World) (hs : Sl w oa xs.length ca 1 (intVals xs)) (hm : xs.length ≤ 9223372036854775807)
    (hn : n ≤ 9223372036854775807) (hg : Sl w oc sg.length cc 2 (pairVals sg)) (hm2 : sg.length ≤ 9223372036854775807) :
    Calls Try.prog 39 #[.slice oa xs.length ca, .slice ob n cb, .slice oc sg.length cc] w fun e w' => e = .returned (.agg #[.int .i64 (Pl.sigF xs n sg).1, .int .i64 (Pl.sigF xs n sg).2]) ∧ Below w.heap.size w w' := by
  rcases Pl.keysF_cases xs with ⟨hF, hk⟩ | hF
  · have HF := Lib.hid hF
    have hl := hk.len
    by_cases h1 : n ≤ 4096
    · by_cases h2 : sg.length ≤ 24
      · have e : Pl.sigF xs n sg = match sg.findIdx? (fun s => !Pl.sigB s) with | some i => (3, (xs.length : Int) + (i : Int)) | none => (0, 0) := by unfold Pl.sigF; rw [hF, if_pos rfl, if_pos h1, if_pos h2]; cases sg.findIdx? (fun s => !Pl.sigB s) <;> rfl
        generalize hM : Pl.sigF xs n sg = F at *
        have HE := Lib.hid e
        clear e hM hF hk
        go_enter Try.func39, Try.ntmps39
        go_wp2_with fail
        refine (KeysFault_any xs oa ca _ (hs.below ((Below.refl _ _).alloc (Nat.le_refl _) _) (Nat.le_refl _)) hm).mono ?_
        rw [HF.out]
        rintro e w1 ⟨rfl, hb1⟩
        have B1 : Below w.heap.size w w1 := bcall (by go_grown) hb1 (by simp)
        have s1 := B1.size
        have X1 := ((Box2.new w (.int .i64 0) (.int .i64 0) 24).below hb1 (by simp)).alloc (.cells #[.int .i64 0, .int .i64 0] 24)
        have B2 := B1.alloc s1 (.cells #[.int .i64 0, .int .i64 0] 24)
        have hg2 := hg.below B2 (Nat.le_refl _)
        go_wp2_with fail
        generalize hW : w1.alloc (.cells #[.int .i64 0, .int .i64 0] 24) = W at *
        clear hW
        rcases hg2.mem with h0 | ⟨b, off, rfl, hlt, hc⟩
        · have hl0 : sg = [] := by
            have := pairVals_length sg
            rw [h0] at this
            exact List.eq_nil_of_length_eq_zero (by simp at this; omega)
          subst hl0
          have E := Lib.hid (show F = (0, 0) by rw [HE.out]; rfl)
          obtain ⟨c0, c1, f0, f1, l1⟩ := X1
          go_rounds 1
          refine bodyPost_ret (v := .agg #[.int .i64 0, .int .i64 0]) (by simp [results, Try.results39, go_sem, c0, c1]) rfl ⟨by rw [E.out], by go_grown⟩
        · go_loopw [8] (fun i wr => ∃ k : Nat, k ≤ sg.length ∧ i = .int .i64 k ∧ UpTo Pl.sigB sg k ∧ Below W.heap.size W wr) (fun i _ => sg.length - (intOf i).toNat)
          case atStart => exact ⟨0, Nat.zero_le _, rfl, UpTo.zero _ _, Below.refl _ _⟩
          case round =>
            obtain ⟨k, hk, rfl, hu, hb⟩ := hrel
            have B3 : Below w.heap.size w wr := bcall B2 hb (by have := B2.size; omega)
            obtain ⟨c0, c1, f0, f1, l1⟩ := X1.below hb X1.lt
            by_cases hlt2 : k < sg.length
            · obtain ⟨g0, g1⟩ := pairVals_get sg k hlt2
              have hcell : wr.cell? ⟨b, off + k * 2, none⟩ = some (.int .i64 sg[k].1) := by
                rw [hb.cell (p := ⟨b, off + k * 2, none⟩) hlt]
                exact hc _ _ g0
              have hcell2 : wr.cell? ⟨b, off + k * 2 + 1, none⟩ = some (.int .i64 sg[k].2) := by
                rw [hb.cell (p := ⟨b, off + k * 2 + 1, none⟩) hlt]
                exact hc _ _ g1
              clear hc g0 g1
              by_cases hk1 : Pl.isKeyB sg[k].1 = true
              · by_cases hd1 : Pl.isDigestB sg[k].2 = true
                · go_wp2_with (first | (go_at_call 66; refine (rIsKey_any _ _).mono ?_; rintro e w' ⟨rfl, rfl⟩) | (go_at_call 26; refine (rIsDigest_any _ _).mono ?_; rintro e w' ⟨rfl, rfl⟩))
                  go_roundw
                  case rel => exact ⟨k + 1, hlt2, by go_num, hu.succ hlt2 (by simp [Pl.sigB, hk1, hd1]), hb⟩
                  case measure => simp [intOf]; omega
                · have hd1 : Pl.isDigestB sg[k].2 = false := by simpa using hd1
                  have E := Lib.hid (show F = (3, (xs.length : Int) + (k : Int)) by rw [HE.out, hu.bad hlt2 (by simp [Pl.sigB, hk1, hd1])])
                  go_wp2_with (first | (go_at_call 66; refine (rIsKey_any _ _).mono ?_; rintro e w' ⟨rfl, rfl⟩) | (go_at_call 26; refine (rIsDigest_any _ _).mono ?_; rintro e w' ⟨rfl, rfl⟩))
                  refine (rfault_any _ _ _).mono ?_
                  rintro e w2 ⟨rfl, hb2⟩
                  have B4 : Below w.heap.size w w2 := bcall B3 hb2 (by omega)
                  obtain ⟨c0, c1, f0, f1, l2⟩ := (Box2.mk c0 c1 f0 f1 l1).below hb2 l1
                  go_wp2_with fail
                  refine bodyPost_ret (v := .agg #[.int .i64 3, .int .i64 ((xs.length : Int) + (k : Int))]) (by simp [results, Try.results39, go_sem, c0, c1]) rfl ⟨by rw [E.out], by go_grown⟩
              · have hk1 : Pl.isKeyB sg[k].1 = false := by simpa using hk1
                have E := Lib.hid (show F = (3, (xs.length : Int) + (k : Int)) by rw [HE.out, hu.bad hlt2 (by simp [Pl.sigB, hk1])])
                go_wp2_with (first | (go_at_call 66; refine (rIsKey_any _ _).mono ?_; rintro e w' ⟨rfl, rfl⟩) | (go_at_call 26; refine (rIsDigest_any _ _).mono ?_; rintro e w' ⟨rfl, rfl⟩))
                refine (rfault_any _ _ _).mono ?_
                rintro e w2 ⟨rfl, hb2⟩
                have B4 : Below w.heap.size w w2 := bcall B3 hb2 (by omega)
                obtain ⟨c0, c1, f0, f1, l2⟩ := (Box2.mk c0 c1 f0 f1 l1).below hb2 l1
                go_wp2_with fail
                refine bodyPost_ret (v := .agg #[.int .i64 3, .int .i64 ((xs.length : Int) + (k : Int))]) (by simp [results, Try.results39, go_sem, c0, c1]) rfl ⟨by rw [E.out], by go_grown⟩
            · obtain rfl : k = sg.length := by omega
              have E := Lib.hid (show F = (0, 0) by rw [HE.out, hu.all])
              go_wp2_with fail
              refine bodyPost_ret (v := .agg #[.int .i64 0, .int .i64 0]) (by simp [results, Try.results39, go_sem, c0, c1]) rfl ⟨by rw [E.out], by go_grown⟩
      · have e : Pl.sigF xs n sg = (2, -3) := by unfold Pl.sigF; rw [hF, if_pos rfl, if_pos h1, if_neg h2]
        rw [e]
        clear e hF hk
        go_enter Try.func39, Try.ntmps39
        go_wp2_with fail
        refine (KeysFault_any xs oa ca _ (hs.below ((Below.refl _ _).alloc (Nat.le_refl _) _) (Nat.le_refl _)) hm).mono ?_
        rw [HF.out]
        rintro e w1 ⟨rfl, hb1⟩
        have B1 : Below w.heap.size w w1 := bcall (by go_grown) hb1 (by simp)
        have s1 := B1.size
        have X1 := ((Box2.new w (.int .i64 0) (.int .i64 0) 24).below hb1 (by simp)).alloc (.cells #[.int .i64 0, .int .i64 0] 24)
        have B2 := B1.alloc s1 (.cells #[.int .i64 0, .int .i64 0] 24)
        go_wp2_with fail
        refine (rfault_any _ _ _).mono ?_
        rintro e w2 ⟨rfl, hb2⟩
        have B4 : Below w.heap.size w w2 := bcall B2 hb2 (by have := B2.size; omega)
        obtain ⟨c0, c1, f0, f1, l2⟩ := X1.below hb2 X1.lt
        go_wp2_with fail
        refine bodyPost_ret (v := .agg #[.int .i64 2, .int .i64 (-3)]) (by simp [results, Try.results39, go_sem, c0, c1]) rfl ⟨rfl, by go_grown⟩
    · have e : Pl.sigF xs n sg = (2, -2) := by unfold Pl.sigF; rw [hF, if_pos rfl, if_neg h1]
      rw [e]
      clear e hF hk
      go_enter Try.func39, Try.ntmps39
      go_wp2_with fail
      refine (KeysFault_any xs oa ca _ (hs.below ((Below.refl _ _).alloc (Nat.le_refl _) _) (Nat.le_refl _)) hm).mono ?_
      rw [HF.out]
      rintro e w1 ⟨rfl, hb1⟩
      have B1 : Below w.heap.size w w1 := bcall (by go_grown) hb1 (by simp)
      have s1 := B1.size
      have X1 := ((Box2.new w (.int .i64 0) (.int .i64 0) 24).below hb1 (by simp)).alloc (.cells #[.int .i64 0, .int .i64 0] 24)
      have B2 := B1.alloc s1 (.cells #[.int .i64 0, .int .i64 0] 24)
      go_wp2_with fail
      refine (rfault_any _ _ _).mono ?_
      rintro e w2 ⟨rfl, hb2⟩
      have B4 : Below w.heap.size w w2 := bcall B2 hb2 (by have := B2.size; omega)
      obtain ⟨c0, c1, f0, f1, l2⟩ := X1.below hb2 X1.lt
      go_wp2_with fail
      refine bodyPost_ret (v := .agg #[.int .i64 2, .int .i64 (-2)]) (by simp [results, Try.results39, go_sem, c0, c1]) rfl ⟨rfl, by go_grown⟩
  · have e : Pl.sigF xs n sg = Pl.keysF xs := by unfold Pl.sigF; rw [if_neg hF]
    rw [e]
    clear e
    generalize hM : Pl.keysF xs = F at *
    have HM := Lib.hid hM
    have u1 : (F.1 != 0) = true := by simp [hF]
    clear hM hF
    go_enter Try.func39, Try.ntmps39
    go_wp2_with fail
    refine (KeysFault_any xs oa ca _ (hs.below ((Below.refl _ _).alloc (Nat.le_refl _) _) (Nat.le_refl _)) hm).mono ?_
    rw [HM.out]
    rintro e w1 ⟨rfl, hb1⟩
    have B1 : Below w.heap.size w w1 := bcall (by go_grown) hb1 (by simp)
    obtain ⟨c0, c1, f0, f1, l1⟩ := (Box2.new w (.int .i64 0) (.int .i64 0) 24).below hb1 (by simp)
    have s1 := B1.size
    go_wp2_with fail
    refine bodyPost_ret (v := .agg #[.int .i64 F.1, .int .i64 F.2]) (by simp [results, Try.results39, go_sem, c0, c1, l1]) rfl ⟨rfl, by go_grown⟩
end Go.Proofs.Ytplcbhcbahiheaa
