/- Contracts of package threshold and its reference: thresholds, faults of signatures. -/
import Derived.Test.YtplcbhcbahiheaaXa
namespace Go.Proofs.Ytplcbhcbahiheaa
open Go.RowKit

theorem ThresholdFault_any (xs : List Int) (need : Int) (oa : Option Addr) (cap : Nat) (w : World) (hs : Sl w oa xs.length cap 1 (intVals xs)) (hm : xs.length ≤ 9223372036854775807) :
    Calls Try.prog 62 #[.slice oa xs.length cap, .int .i64 need] w fun e w' => e = .returned (.agg #[.int .i64 (Pl.thrF xs need).1, .int .i64 (Pl.thrF xs need).2]) ∧ Below w.heap.size w w' := by
  rcases Pl.keysF_cases xs with ⟨hF, hk⟩ | hF
  · have HF := Lib.hid hF
    have hl := hk.len
    by_cases hn : Pl.inB need 1 (xs.length : Int) = true
    · have e : Pl.thrF xs need = (0, 0) := by simp [Pl.thrF, hF, hn]
      rw [e]
      clear e hF hk
      go_enter Try.func62, Try.ntmps62
      go_wp2_with fail
      refine (KeysFault_any xs oa cap _ (hs.below ((Below.refl _ _).alloc (Nat.le_refl _) _) (Nat.le_refl _)) hm).mono ?_
      rw [HF.out]
      rintro e w1 ⟨rfl, hb1⟩
      have B1 : Below w.heap.size w w1 := bcall (by go_grown) hb1 (by simp)
      obtain ⟨c0, c1, f0, f1, l1⟩ := (Box2.new w (.int .i64 0) (.int .i64 0) 24).below hb1 (by simp)
      go_wp2_with (go_at_call 52; refine (rin_any _ _ _ _).mono ?_; rintro e w' ⟨rfl, rfl⟩)
      refine bodyPost_ret (v := .agg #[.int .i64 0, .int .i64 0]) (by simp [results, Try.results62, go_sem, c0, c1, l1]) rfl ⟨rfl, by go_grown⟩
    · have hn : Pl.inB need 1 (xs.length : Int) = false := by simpa using hn
      have e : Pl.thrF xs need = (3, -1) := by simp [Pl.thrF, hF, hn]
      rw [e]
      clear e hF hk
      go_enter Try.func62, Try.ntmps62
      go_wp2_with fail
      refine (KeysFault_any xs oa cap _ (hs.below ((Below.refl _ _).alloc (Nat.le_refl _) _) (Nat.le_refl _)) hm).mono ?_
      rw [HF.out]
      rintro e w1 ⟨rfl, hb1⟩
      have B1 : Below w.heap.size w w1 := bcall (by go_grown) hb1 (by simp)
      have X1 := (Box2.new w (.int .i64 0) (.int .i64 0) 24).below hb1 (by simp)
      have s1 := B1.size
      go_wp2_with (go_at_call 52; refine (rin_any _ _ _ _).mono ?_; rintro e w' ⟨rfl, rfl⟩)
      refine (rfault_any _ _ _).mono ?_
      rintro e w2 ⟨rfl, hb2⟩
      have B2 : Below w.heap.size w w2 := bcall (B1.alloc s1 _) hb2 (by go_size)
      have X1 := X1.alloc (.cells #[.int .i64 0, .int .i64 0] 24)
      obtain ⟨c0, c1, f0, f1, l1⟩ := X1.below hb2 X1.lt
      go_wp2_with fail
      refine bodyPost_ret (v := .agg #[.int .i64 3, .int .i64 (-1)]) (by simp [results, Try.results62, go_sem, c0, c1]) rfl ⟨rfl, by go_grown⟩
  · have e : Pl.thrF xs need = Pl.keysF xs := by simp [Pl.thrF, hF]
    rw [e]
    clear e
    generalize hM : Pl.keysF xs = F at *
    have HM := Lib.hid hM
    have u1 : (F.1 != 0) = true := by simp [hF]
    clear hM hF
    go_enter Try.func62, Try.ntmps62
    go_wp2_with fail
    refine (KeysFault_any xs oa cap _ (hs.below ((Below.refl _ _).alloc (Nat.le_refl _) _) (Nat.le_refl _)) hm).mono ?_
    rw [HM.out]
    rintro e w1 ⟨rfl, hb1⟩
    have B1 : Below w.heap.size w w1 := bcall (by go_grown) hb1 (by simp)
    obtain ⟨c0, c1, f0, f1, l1⟩ := (Box2.new w (.int .i64 0) (.int .i64 0) 24).below hb1 (by simp)
    have s1 := B1.size
    go_wp2_with fail
    refine bodyPost_ret (v := .agg #[.int .i64 F.1, .int .i64 F.2]) (by simp [results, Try.results62, go_sem, c0, c1, l1]) rfl ⟨rfl, by go_grown⟩

theorem Validate_any (xs : List Int) (need : Int) (oa : Option Addr) (cap : Nat) (w : World) (hs : Sl w oa xs.length cap 1 (intVals xs)) (hm : xs.length ≤ 9223372036854775807) :
    Calls Try.prog 77 #[.slice oa xs.length cap, .int .i64 need] w fun e w' => e = .returned (.agg #[.int .i64 (Pl.thrF xs need).1, .int .i64 (Pl.thrF xs need).2]) ∧ Below w.heap.size w w' := by
  rcases Pl.keysF_cases xs with ⟨hF, hk⟩ | hF
  · have HF := Lib.hid hF
    have hl := hk.len
    by_cases hn : Pl.inB need 1 (xs.length : Int) = true
    · have e : Pl.thrF xs need = (0, 0) := by simp [Pl.thrF, hF, hn]
      have r := Pl.inB_true.1 hn
      rw [e]
      clear e hF hk hn
      have r1 := r.1
      have r2 := r.2
      clear r
      go_enter Try.func77, Try.ntmps77
      go_wp2_with fail
      refine (checkKeys_any xs oa cap _ (hs.below ((Below.refl _ _).alloc (Nat.le_refl _) _) (Nat.le_refl _)) hm).mono ?_
      rw [HF.out]
      rintro e w1 ⟨rfl, hb1⟩
      have B1 : Below w.heap.size w w1 := bcall (by go_grown) hb1 (by simp)
      obtain ⟨c0, c1, f0, f1, l1⟩ := (Box2.new w (.int .i64 0) (.int .i64 0) 24).below hb1 (by simp)
      have s1 := B1.size
      go_wp2_with fail
      refine bodyPost_ret (v := .agg #[.int .i64 0, .int .i64 0]) (by simp [results, Try.results77, go_sem, c0, c1, l1]) rfl ⟨rfl, by go_grown⟩
    · have hn : Pl.inB need 1 (xs.length : Int) = false := by simpa using hn
      have e : Pl.thrF xs need = (3, -1) := by simp [Pl.thrF, hF, hn]
      have r := Pl.inB_false.1 hn
      rw [e]
      clear e hF hk hn
      by_cases h1 : need < 1
      · clear r
        go_enter Try.func77, Try.ntmps77
        go_wp2_with fail
        refine (checkKeys_any xs oa cap _ (hs.below ((Below.refl _ _).alloc (Nat.le_refl _) _) (Nat.le_refl _)) hm).mono ?_
        rw [HF.out]
        rintro e w1 ⟨rfl, hb1⟩
        have B1 : Below w.heap.size w w1 := bcall (by go_grown) hb1 (by simp)
        obtain ⟨c0, c1, f0, f1, l1⟩ := (Box2.new w (.int .i64 0) (.int .i64 0) 24).below hb1 (by simp)
        have s1 := B1.size
        go_wp2_with fail
        refine bodyPost_ret (v := .agg #[.int .i64 3, .int .i64 (-1)]) (by simp [results, Try.results77, go_sem, c0, c1, l1]) rfl ⟨rfl, by go_grown⟩
      · have h2 : (xs.length : Int) < need := by omega
        clear r
        go_enter Try.func77, Try.ntmps77
        go_wp2_with fail
        refine (checkKeys_any xs oa cap _ (hs.below ((Below.refl _ _).alloc (Nat.le_refl _) _) (Nat.le_refl _)) hm).mono ?_
        rw [HF.out]
        rintro e w1 ⟨rfl, hb1⟩
        have B1 : Below w.heap.size w w1 := bcall (by go_grown) hb1 (by simp)
        obtain ⟨c0, c1, f0, f1, l1⟩ := (Box2.new w (.int .i64 0) (.int .i64 0) 24).below hb1 (by simp)
        have s1 := B1.size
        go_wp2_with fail
        refine bodyPost_ret (v := .agg #[.int .i64 3, .int .i64 (-1)]) (by simp [results, Try.results77, go_sem, c0, c1, l1]) rfl ⟨rfl, by go_grown⟩
  · have e : Pl.thrF xs need = Pl.keysF xs := by simp [Pl.thrF, hF]
    rw [e]
    clear e
    generalize hM : Pl.keysF xs = F at *
    have HM := Lib.hid hM
    have u1 : (F.1 != 0) = true := by simp [hF]
    have u2 : (F.1 == 0) = false := by simp [hF]
    clear hM hF
    go_enter Try.func77, Try.ntmps77
    go_wp2_with fail
    refine (checkKeys_any xs oa cap _ (hs.below ((Below.refl _ _).alloc (Nat.le_refl _) _) (Nat.le_refl _)) hm).mono ?_
    rw [HM.out]
    rintro e w1 ⟨rfl, hb1⟩
    have B1 : Below w.heap.size w w1 := bcall (by go_grown) hb1 (by simp)
    obtain ⟨c0, c1, f0, f1, l1⟩ := (Box2.new w (.int .i64 0) (.int .i64 0) 24).below hb1 (by simp)
    have s1 := B1.size
    go_wp2_with fail
    refine bodyPost_ret (v := .agg #[.int .i64 F.1, .int .i64 F.2]) (by simp [results, Try.results77, go_sem, c0, c1, l1]) rfl ⟨rfl, by go_grown⟩
end Go.Proofs.Ytplcbhcbahiheaa
