/- Contracts: acceptance; a list that has a number. -/
import Derived.Test.YtplcbhcbahiheaaXe
namespace Go.Proofs.Ytplcbhcbahiheaa
open Go.RowKit

namespace Pl
theorem thrF_cases (xs : List Int) (need : Int) : thrF xs need = (0, 0) ∧ keysF xs = (0, 0) ∧ Keys xs ∧ 1 ≤ need ∧ need ≤ (xs.length : Int) ∨ (thrF xs need).1 ≠ 0 := by
  unfold thrF
  rcases keysF_cases xs with ⟨e, hk⟩ | h
  · rw [e, if_pos rfl]
    by_cases hn : inB need 1 (xs.length : Int) = true
    · rw [if_pos hn]
      have r := inB_true.1 hn
      exact .inl ⟨rfl, rfl, hk, r.1, r.2⟩
    · rw [if_neg hn]; exact .inr (by decide)
  · rw [if_neg h]; exact .inr h
end Pl

set_option maxHeartbeats 1000000 in
theorem Accept_any (xs : List Int) (need : Int) (l : List UInt8) (sg : List (Int × Int)) (oa ob oc : Option Addr) (ca cb cc : Nat) (w : World) (hs : Sl w oa xs.length ca 1 (intVals xs)) (hm : xs.length ≤ 9223372036854775807)
    (hb : Sl w ob l.length cb 1 (byteVals l)) (hm2 : l.length ≤ 9223372036854775807) (hg : Sl w oc sg.length cc 2 (pairVals sg)) (hm3 : sg.length ≤ 9223372036854775807) :
    Calls Try.prog 64 #[.slice oa xs.length ca, .int .i64 need, .slice ob l.length cb, .slice oc sg.length cc] w fun e w' =>
      e = .returned (.tuple #[.bool (Pl.accB xs need l sg), .agg #[.int .i64 (Pl.accF xs need l.length sg).1, .int .i64 (Pl.accF xs need l.length sg).2]]) ∧ Below w.heap.size w w' := by
  rcases Pl.thrF_cases xs need with ⟨hT, hF, hk, hn1, hn2⟩ | hT
  · have HT := Lib.hid hT
    have hA : Pl.accF xs need l.length sg = Pl.sigF xs l.length sg := by simp [Pl.accF, hT]
    rcases Pl.sigF_cases xs l.length sg with ⟨hS, _⟩ | hS
    · have HS := Lib.hid hS
      have hB : Pl.accB xs need l sg = decide (need ≤ ((Pl.signers xs l sg).length : Int)) := by simp [Pl.accB, hA, hS]
      have hV : Pl.signersV xs l sg = Pl.signers xs l sg := by simp [Pl.signersV, hS]
      rw [hB, hA, hS]
      have HV := Lib.hid hV
      clear hB hA hS hV hF hk hT
      go_enter Try.func64, Try.ntmps64
      go_wp2_with fail
      refine (Validate_any xs need oa ca _ (hs.below ((Below.refl _ _).alloc (Nat.le_refl _) _) (Nat.le_refl _)) hm).mono ?_
      rw [HT.out]
      rintro e w1 ⟨rfl, hb1⟩
      have B1 : Below w.heap.size w w1 := bcall (by go_grown) hb1 (by simp)
      have s1 := B1.size
      have X1 := ((Box2.new w (.int .i64 0) (.int .i64 0) 24).below hb1 (by simp)).alloc (.cells #[.int .i64 0, .int .i64 0] 24)
      have B2 := B1.alloc s1 (.cells #[.int .i64 0, .int .i64 0] 24)
      have s2 := B2.size
      go_wp2_with fail
      refine (Signers_any xs l sg oa ob oc ca cb cc _ (hs.below B2 (Nat.le_refl _)) hm (hb.below B2 (Nat.le_refl _)) hm2 (hg.below B2 (Nat.le_refl _)) hm3).mono ?_
      rintro e w2 ⟨o, c, rfl, hown, hb2⟩
      rw [HV.out, HS.out]
      clear hown
      have B3 := bcall B2 hb2 s2
      have s3 := B3.size
      obtain ⟨c0, c1, f0, f1, l1⟩ := X1.below hb2 X1.lt
      go_wp2_with fail
      go_region
      go_wp2_with fail
      refine bodyPost_ret (v := .tuple #[.bool (decide (need ≤ ((Pl.signers xs l sg).length : Int))), .agg #[.int .i64 0, .int .i64 0]]) (by simp [results, Try.results64, go_sem, c0, c1, l1]) rfl ⟨rfl, by go_grown⟩
    · have hB : Pl.accB xs need l sg = false := by simp [Pl.accB, hA, hS]
      rw [hB, hA]
      generalize hM : Pl.sigF xs l.length sg = F at *
      have HS := Lib.hid hM
      have u1 : (F.1 != 0) = true := by simp [hS]
      have u2 : (F.1 == 0) = false := by simp [hS]
      clear hB hA hM hS hF hk hT
      go_enter Try.func64, Try.ntmps64
      go_wp2_with fail
      refine (Validate_any xs need oa ca _ (hs.below ((Below.refl _ _).alloc (Nat.le_refl _) _) (Nat.le_refl _)) hm).mono ?_
      rw [HT.out]
      rintro e w1 ⟨rfl, hb1⟩
      have B1 : Below w.heap.size w w1 := bcall (by go_grown) hb1 (by simp)
      have s1 := B1.size
      have X1 := ((Box2.new w (.int .i64 0) (.int .i64 0) 24).below hb1 (by simp)).alloc (.cells #[.int .i64 0, .int .i64 0] 24)
      have B2 := B1.alloc s1 (.cells #[.int .i64 0, .int .i64 0] 24)
      have s2 := B2.size
      go_wp2_with fail
      refine (Signers_any xs l sg oa ob oc ca cb cc _ (hs.below B2 (Nat.le_refl _)) hm (hb.below B2 (Nat.le_refl _)) hm2 (hg.below B2 (Nat.le_refl _)) hm3).mono ?_
      rintro e w2 ⟨o, c, rfl, hown, hb2⟩
      rw [HS.out]
      clear hown
      have B3 := bcall B2 hb2 s2
      have s3 := B3.size
      obtain ⟨c0, c1, f0, f1, l1⟩ := X1.below hb2 X1.lt
      go_wp2_with fail
      go_region
      go_wp2_with fail
      refine bodyPost_ret (v := .tuple #[.bool false, .agg #[.int .i64 F.1, .int .i64 F.2]]) (by simp [results, Try.results64, go_sem, c0, c1, l1]) rfl ⟨rfl, by go_grown⟩
  · have hA : Pl.accF xs need l.length sg = Pl.thrF xs need := by simp [Pl.accF, hT]
    have hB : Pl.accB xs need l sg = false := by simp [Pl.accB, hA, hT]
    rw [hB, hA]
    generalize hM : Pl.thrF xs need = F at *
    have HM := Lib.hid hM
    have u1 : (F.1 != 0) = true := by simp [hT]
    have u2 : (F.1 == 0) = false := by simp [hT]
    clear hM hT hA hB
    go_enter Try.func64, Try.ntmps64
    go_wp2_with fail
    refine (Validate_any xs need oa ca _ (hs.below ((Below.refl _ _).alloc (Nat.le_refl _) _) (Nat.le_refl _)) hm).mono ?_
    rw [HM.out]
    rintro e w1 ⟨rfl, hb1⟩
    have B1 : Below w.heap.size w w1 := bcall (by go_grown) hb1 (by simp)
    obtain ⟨c0, c1, f0, f1, l1⟩ := (Box2.new w (.int .i64 0) (.int .i64 0) 24).below hb1 (by simp)
    have s1 := B1.size
    go_wp2_with fail
    go_region
    go_wp2_with fail
    refine bodyPost_ret (v := .tuple #[.bool false, .agg #[.int .i64 F.1, .int .i64 F.2]]) (by simp [results, Try.results64, go_sem, c0, c1, l1]) rfl ⟨rfl, by go_grown⟩

theorem lin_any (n lo hi : Int) (w : World) :
    Calls Try.prog 18 #[.int .i64 n, .int .i64 lo, .int .i64 hi] w fun e w' => e = .returned (.bool (Pl.inB n lo hi)) ∧ w = w' := by
  go_enter Try.func18, Try.ntmps18
  go_wp2
  all_goals (go_ret; exact ⟨ret_bool (by unfold Pl.inB; simp; omega), rfl⟩)
end Go.Proofs.Ytplcbhcbahiheaa
