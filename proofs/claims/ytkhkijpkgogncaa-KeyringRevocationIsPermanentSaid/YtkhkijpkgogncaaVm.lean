/- The law KeyringRevocationIsPermanent returns true. -/
import Derived.Test.YtkhkijpkgogncaaVl
namespace Go.Proofs.Ytkhkijpkgogncaa
open Go.RowKit

set_option maxRecDepth 100000 in
set_option maxHeartbeats 2000000 in
theorem KeyringRevocationIsPermanent_long (l m : List Pl.Ev) (k t : Int) (oa ob : Option Addr) (cap cb : Nat) (w : World) (_ : Sl w oa l.length cap 4 (quadVals l)) (hm : l.length ≤ 9223372036854775807) (_ : ∀ e ∈ l, (Lit.int .i64 e.key).wf = true) (_ : Sl w ob m.length cb 4 (quadVals m)) (_ : m.length ≤ 9223372036854775807) (_ : ∀ e ∈ m, (Lit.int .i64 e.key).wf = true) (h : 40 < l.length) : Calls Try.prog 10 #[.slice oa l.length cap, .slice ob m.length cb, .int .i64 k, .int .i64 t] w fun e w' => e = .returned (.bool true) ∧ Below w.heap.size w w' := by
  have d1 : decide (40 < l.length) = true := by simp; omega
  have d12 : decide ((40 : Int) < (l.length : Int)) = true := by simp; omega
  
  go_enter Try.func10, Try.ntmps10
  go_wp2_with fail
  refine (keys_any _).mono ?_
  rintro e w1 ⟨rfl, hb1⟩
  have B1 : Below w.heap.size w w1 := bcall (by go_grown) hb1 (by go_size)
  have s1 := B1.size
  have q1 : w.heap.size ≤ w1.heap.size := by have h := hb1.size; first | omega | (simp at h; omega)
  clear hb1
  go_wp2_with fail
  go_ret
  exact ⟨ret_true (by simp), by go_grown⟩
set_option maxRecDepth 100000 in
set_option maxHeartbeats 2000000 in
theorem KeyringRevocationIsPermanent_long2 (l m : List Pl.Ev) (k t : Int) (oa ob : Option Addr) (cap cb : Nat) (w : World) (_ : Sl w oa l.length cap 4 (quadVals l)) (hm : l.length ≤ 9223372036854775807) (_ : ∀ e ∈ l, (Lit.int .i64 e.key).wf = true) (_ : Sl w ob m.length cb 4 (quadVals m)) (hm2 : m.length ≤ 9223372036854775807) (_ : ∀ e ∈ m, (Lit.int .i64 e.key).wf = true) (h1 : l.length ≤ 40) (h : 40 < m.length) : Calls Try.prog 10 #[.slice oa l.length cap, .slice ob m.length cb, .int .i64 k, .int .i64 t] w fun e w' => e = .returned (.bool true) ∧ Below w.heap.size w w' := by
  have d1 : decide (40 < l.length) = false := by simp; omega
  have d12 : decide ((40 : Int) < (l.length : Int)) = false := by simp; omega
  have d2 : decide (40 < m.length) = true := by simp; omega
  have d22 : decide ((40 : Int) < (m.length : Int)) = true := by simp; omega
  
  go_enter Try.func10, Try.ntmps10
  go_wp2_with fail
  refine (keys_any _).mono ?_
  rintro e w1 ⟨rfl, hb1⟩
  have B1 : Below w.heap.size w w1 := bcall (by go_grown) hb1 (by go_size)
  have s1 := B1.size
  have q1 : w.heap.size ≤ w1.heap.size := by have h := hb1.size; first | omega | (simp at h; omega)
  clear hb1
  go_wp2_with fail
  go_ret
  exact ⟨ret_true (by simp), by go_grown⟩
set_option maxRecDepth 100000 in
set_option maxHeartbeats 2000000 in
theorem KeyringRevocationIsPermanent_x (l m : List Pl.Ev) (k t : Int) (oa ob : Option Addr) (cap cb : Nat) (w : World) (hs : Sl w oa l.length cap 4 (quadVals l)) (hm : l.length ≤ 9223372036854775807) (hw : ∀ e ∈ l, (Lit.int .i64 e.key).wf = true) (hs2 : Sl w ob m.length cb 4 (quadVals m)) (hm2 : m.length ≤ 9223372036854775807) (hw2 : ∀ e ∈ m, (Lit.int .i64 e.key).wf = true) (h1 : l.length ≤ 40) (h2 : m.length ≤ 40) : Calls Try.prog 10 #[.slice oa l.length cap, .slice ob m.length cb, .int .i64 k, .int .i64 t] w fun e w' => e = .returned (.bool true) ∧ Below w.heap.size w w' := by
  have d1 : decide (40 < l.length) = false := by simp; omega
  have d12 : decide ((40 : Int) < (l.length : Int)) = false := by simp; omega
  have d2 : decide (40 < m.length) = false := by simp; omega
  have d22 : decide ((40 : Int) < (m.length : Int)) = false := by simp; omega
  obtain ⟨F, hF⟩ : ∃ x, Pl.validF (l ++ m) k t = x := ⟨_, rfl⟩
  obtain ⟨B, hB⟩ : ∃ x, Pl.validB (l ++ m) k t = x := ⟨_, rfl⟩
  obtain ⟨rv, hrv⟩ : ∃ x, Pl.keyTime l k 2 = x := ⟨_, rfl⟩
  have n1 := Lib.hid (show F.1 ≠ 0 → B = false from fun h => by rw [← hB]; exact Pl.valid_bad2 (by rw [hF]; exact h))
  have n2 := Lib.hid (show 0 ≤ rv → ¬ t < rv → B = false from fun h1 h2 => by rw [← hB]; exact Pl.revoked_stays (by rw [hrv]; exact h1) (by rw [hrv]; exact h2))
  have HF := Lib.hid hF
  have HB := Lib.hid hB
  have HR := Lib.hid hrv
  have hwa := Lib.hid (show ∀ e ∈ l ++ m, (Lit.int .i64 e.key).wf = true from fun e he => by
    rcases List.mem_append.1 he with he | he
    · exact hw e he
    · exact hw2 e he)
  clear hF hB hrv hw hw2
  go_enter Try.func10, Try.ntmps10
  go_wp2_with fail
  refine (keys_any _).mono ?_
  rintro e w1 ⟨rfl, hb1⟩
  have B1 : Below w.heap.size w w1 := bcall (by go_grown) hb1 (by go_size)
  have s1 := B1.size
  have q1 : w.heap.size ≤ w1.heap.size := by have h := hb1.size; first | omega | (simp at h; omega)
  replace hs := hs.below hb1 (Nat.le_refl _)
  replace hs2 := hs2.below hb1 (Nat.le_refl _)
  clear hb1
  have src1 := Src.ofSl (P := Try.prog) (t := 50) Try.underlying50 hs (by decide) (quadVals_one l)
  have tok : True := trivial
  go_wp2_with (first | (at_builtin; have _t := tok; clear _t; clear tok; refine ap (by rfl) (by rfl) Try.tEvents (Below.refl w1.heap.size w1) (by rfl) (World.ownsRow_nil _ _ _ _) (m := l.length) src1 (by omega) (Nat.le_refl _) ?_; intro v2 w2 own2 G2 h2; have src2 := Src.ofSl (P := Try.prog) (t := 50) Try.underlying50 (hs2.below G2 (Nat.le_refl _)) (by decide) (quadVals_one m)) | (at_builtin; refine ap (by rfl) (by rfl) Try.tEvents G2 (by rfl) own2 (m := m.length) src2 (by omega) h2 ?_; intro v3 w3 own3 G3 h3; obtain ⟨o3, c3, rfl⟩ := own_slice own3))
  have sl3 : Sl w3 o3 (l.length + m.length) c3 4 (quadVals (l ++ m)) := by have h := Sl.own own3; rw [quadVals_append]; simpa using h
  have B3 : Below w.heap.size w w3 := B1.trans (G3.mono s1)
  have s3 := B3.size
  clear own3 own2 src1 src2 G2 h2 h3
  refine (KeyTime_any l _ rfl k 2 oa cap _ (hs.below G3 (Nat.le_refl _)) hm).mono ?_
  rw [HR.out]
  rintro e w' ⟨rfl, rfl⟩
  clear G3 hs hs2
  go_wp2_with fail
  refine (kValid_n (l ++ m) (l.length + m.length) (by simp) k t o3 c3 _ sl3 (by omega) hwa.out).mono ?_
  rw [HB.out, HF.out]
  rintro e w4 ⟨rfl, hb4⟩
  have B4 : Below w.heap.size w w4 := bcall (by go_grown) hb4 (by go_size)
  have s4 := B4.size
  have q4 : w3.heap.size ≤ w4.heap.size := by have h := hb4.size; first | omega | (simp at h; omega)
  clear hb4
  clear sl3
  by_cases f0 : F.1 = 0
  · have u1 : (F.1 == 0) = true := by simp [f0]
    have u2 : (F.1 != 0) = false := by simp [f0]
    by_cases r0 : rv < 0
    · have u3 : decide (rv < 0) = true := by simp [r0]
      clear r0 n1 n2 f0
      go_wp2_with fail
      go_ret
      exact ⟨ret_true (by simp), by go_grown⟩
    · have u3 : decide (rv < 0) = false := by simp [r0]
      by_cases t0 : t < rv
      · have u4 : decide (t < rv) = true := by simp [t0]
        clear r0 t0 n1 n2 f0
        go_wp2_with fail
        go_ret
        exact ⟨ret_true (by simp), by go_grown⟩
      · have u4 : decide (t < rv) = false := by simp [t0]
        obtain rfl : B = false := n2.out (by omega) (by omega)
        clear r0 t0 n1 n2 f0
        go_wp2_with fail
        go_ret
        exact ⟨ret_true (by simp), by go_grown⟩
  · have u1 : (F.1 == 0) = false := by simp [f0]
    have u2 : (F.1 != 0) = true := by simp [f0]
    obtain rfl : B = false := n1.out f0
    clear n1 n2 f0
    go_wp2_with fail
    go_ret
    exact ⟨ret_true (by simp), by go_grown⟩
theorem KeyringRevocationIsPermanent_main (l m : List Pl.Ev) (k t : Int) (oa ob : Option Addr) (cap cb : Nat) (w : World) (hs : Sl w oa l.length cap 4 (quadVals l)) (hm : l.length ≤ 9223372036854775807) (hw : ∀ e ∈ l, (Lit.int .i64 e.key).wf = true) (hs2 : Sl w ob m.length cb 4 (quadVals m)) (hm2 : m.length ≤ 9223372036854775807) (hw2 : ∀ e ∈ m, (Lit.int .i64 e.key).wf = true) : Calls Try.prog 10 #[.slice oa l.length cap, .slice ob m.length cb, .int .i64 k, .int .i64 t] w fun e w' => e = .returned (.bool true) ∧ Below w.heap.size w w' := by
  by_cases h1 : l.length ≤ 40
  · by_cases h2 : m.length ≤ 40
    · exact KeyringRevocationIsPermanent_x l m k t oa ob cap cb w hs hm hw hs2 hm2 hw2 h1 h2
    · exact KeyringRevocationIsPermanent_long2 l m k t oa ob cap cb w hs hm hw hs2 hm2 hw2 h1 (by omega)
  · exact KeyringRevocationIsPermanent_long l m k t oa ob cap cb w hs hm hw hs2 hm2 hw2 (by omega)
end Go.Proofs.Ytkhkijpkgogncaa
