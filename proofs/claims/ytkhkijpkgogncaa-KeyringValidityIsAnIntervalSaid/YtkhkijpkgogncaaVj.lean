/- The law KeyringValidityIsAnInterval returns true. -/
import Derived.Test.YtkhkijpkgogncaaVi
import Derived.Deep.DeepCutAuto
namespace Go.Proofs.Ytkhkijpkgogncaa
open Go.RowKit

theorem Pl.interval {l : List Pl.Ev} {k a b c : Int} (h1 : a ≤ b) (h2 : b ≤ c) (hx : Pl.validB l k a = true) (hz : Pl.validB l k c = true) : Pl.validB l k b = true ∧ (Pl.validF l k b).1 = 0 := by
  unfold Pl.validB at *
  simp only [Bool.and_eq_true, beq_iff_eq] at *
  have ha : Pl.validF l k a = Pl.validF l k a := rfl
  have hF : (Pl.validF l k b).1 = 0 := by
    have e1 := hx.1
    have e2 := hz.1
    unfold Pl.validF at e1 e2 ⊢
    split
    · rename_i h0
      rw [if_pos h0] at e1 e2
      by_cases h3 : (Pl.isKeyB k && Pl.isTimeB a) = true
      · by_cases h4 : (Pl.isKeyB k && Pl.isTimeB c) = true
        · simp only [Bool.and_eq_true] at h3 h4
          have t1 := Pl.isTimeB_true.1 h3.2
          have t2 := Pl.isTimeB_true.1 h4.2
          rw [if_pos (by rw [h3.1, Pl.isTimeB_true.2 (by omega)]; rfl)]
        · rw [if_neg h4] at e2; cases e2
      · rw [if_neg h3] at e1; cases e1
    · rename_i h0
      rw [if_neg h0] at e1
      exact absurd e1 h0
  refine ⟨⟨hF, ?_⟩, hF⟩
  have e1 := hx.2
  have e2 := hz.2
  unfold Pl.kvB at *
  simp only [Bool.and_eq_true, Bool.or_eq_true, decide_eq_true_eq] at *
  omega
theorem Pl.valid_bad {l : List Pl.Ev} {k t : Int} (h : (Pl.validF l k t).1 ≠ 0) : Pl.validB l k t = false := by
  unfold Pl.validB
  simp [h]
set_option maxHeartbeats 4000000 in
theorem KeyringValidityIsAnInterval_main (l : List Pl.Ev) (k a b c : Int) (oa : Option Addr) (cap : Nat) (w : World) (hs : Sl w oa l.length cap 4 (quadVals l)) (hm : l.length ≤ 9223372036854775807) (hw : ∀ e ∈ l, (Lit.int .i64 e.key).wf = true) : Calls Try.prog 12 #[.slice oa l.length cap, .int .i64 k, .int .i64 a, .int .i64 b, .int .i64 c] w fun e w' => e = .returned (.bool true) ∧ Below w.heap.size w w' := by
  obtain ⟨FA, hFA⟩ : ∃ x, Pl.validF l k a = x := ⟨_, rfl⟩
  obtain ⟨FB, hFB⟩ : ∃ x, Pl.validF l k b = x := ⟨_, rfl⟩
  obtain ⟨FC, hFC⟩ : ∃ x, Pl.validF l k c = x := ⟨_, rfl⟩
  obtain ⟨BA, hBA⟩ : ∃ x, Pl.validB l k a = x := ⟨_, rfl⟩
  obtain ⟨BB, hBB⟩ : ∃ x, Pl.validB l k b = x := ⟨_, rfl⟩
  obtain ⟨BC, hBC⟩ : ∃ x, Pl.validB l k c = x := ⟨_, rfl⟩
  have n1 : FA.1 ≠ 0 → BA = false := fun h => by rw [← hBA]; exact Pl.valid_bad (by rw [hFA]; exact h)
  have n2 : FB.1 ≠ 0 → BB = false := fun h => by rw [← hBB]; exact Pl.valid_bad (by rw [hFB]; exact h)
  have n3 : FC.1 ≠ 0 → BC = false := fun h => by rw [← hBC]; exact Pl.valid_bad (by rw [hFC]; exact h)
  have n4 : a ≤ b → b ≤ c → BA = true → BC = true → BB = true ∧ FB.1 = 0 := fun h1 h2 h3 h4 => by rw [← hBB, ← hFB]; exact Pl.interval h1 h2 (by rw [hBA]; exact h3) (by rw [hBC]; exact h4)
  have A0 := Lib.hid hFA
  have A1 := Lib.hid hFB
  have A2 := Lib.hid hFC
  have A3 := Lib.hid hBA
  have A4 := Lib.hid hBB
  have A5 := Lib.hid hBC
  clear hFA hFB hFC hBA hBB hBC
  have N1 := Lib.hid n1
  have N2 := Lib.hid n2
  have N3 := Lib.hid n3
  have N4 := Lib.hid n4
  clear n1 n2 n3 n4
  go_enter Try.func12, Try.ntmps12
  go_wp2_with fail
  refine (kValid_any l k a oa cap _ hs hm hw).mono ?_
  rw [A3.out, A0.out]
  rintro e w1 ⟨rfl, hb1⟩
  have B1 : Below w.heap.size w w1 := bcall (by go_grown) hb1 (by go_size)
  have s1 := B1.size
  have q1 : w.heap.size ≤ w1.heap.size := by have h := hb1.size; first | omega | (simp at h; omega)
  replace hs := hs.below hb1 (Nat.le_refl _)
  clear hb1
  go_wp2_with fail
  refine (kValid_any l k b oa cap _ (hs.below (by go_grown) (Nat.le_refl _)) hm hw).mono ?_
  rw [A4.out, A1.out]
  rintro e w2 ⟨rfl, hb2⟩
  have B2 : Below w.heap.size w w2 := bcall (by go_grown) hb2 (by go_size)
  have s2 := B2.size
  have q2 : w1.heap.size + 1 ≤ w2.heap.size := by have h := hb2.size; first | omega | (simp at h; omega)
  obtain ⟨ba0, ba1, baf, bag, bal⟩ := (Box2.new w1 (.int .i64 FA.1) (.int .i64 FA.2) 26).below hb2 (by go_size)
  replace hs := (hs.below (by go_grown) (Nat.le_refl _)).below hb2 (Nat.le_refl _)
  clear hb2
  go_wp2_with fail
  refine (kValid_any l k c oa cap _ (hs.below (by go_grown) (Nat.le_refl _)) hm hw).mono ?_
  rw [A5.out, A2.out]
  rintro e w3 ⟨rfl, hb3⟩
  have B3 : Below w.heap.size w w3 := bcall (by go_grown) hb3 (by go_size)
  have s3 := B3.size
  have q3 : w2.heap.size + 1 ≤ w3.heap.size := by have h := hb3.size; first | omega | (simp at h; omega)
  obtain ⟨ba0, ba1, baf, bag, bal⟩ := ((Box2.mk ba0 ba1 baf bag bal).alloc (.cells #[(.int .i64 FB.1), (.int .i64 FB.2)] 26)).below hb3 (by go_size)
  obtain ⟨bb0, bb1, bbf, bbg, bbl⟩ := (Box2.new w2 (.int .i64 FB.1) (.int .i64 FB.2) 26).below hb3 (by go_size)
  replace hs := (hs.below (by go_grown) (Nat.le_refl _)).below hb3 (Nat.le_refl _)
  clear hb3
  skip
  have hA : ((FA.1 != 0) = true ∧ BA = false) ∨ ((FA.1 != 0) = false ∧ BA = false) ∨ ((FA.1 != 0) = false ∧ BA = true) := by
    by_cases h : FA.1 = 0
    · cases BA <;> simp [h]
    · exact .inl ⟨by simp [h], N1.out h⟩
  have hB : ((FB.1 != 0) = true ∧ BB = false) ∨ ((FB.1 != 0) = false ∧ BB = false) ∨ ((FB.1 != 0) = false ∧ BB = true) := by
    by_cases h : FB.1 = 0
    · cases BB <;> simp [h]
    · exact .inl ⟨by simp [h], N2.out h⟩
  have hC : ((FC.1 != 0) = true ∧ BC = false) ∨ ((FC.1 != 0) = false ∧ BC = false) ∨ ((FC.1 != 0) = false ∧ BC = true) := by
    by_cases h : FC.1 = 0
    · cases BC <;> simp [h]
    · exact .inl ⟨by simp [h], N3.out h⟩
  clear N1 N2 N3 A0 A1 A2 A3 A4 A5
  replace hA := Lib.hid hA
  replace hB := Lib.hid hB
  replace hC := Lib.hid hC
  go_upto_region 4 with fail
  go_cut [63] (fun s wx => s = .bool false ∧ Box2 wx w2.heap.size (.int .i64 FB.1) (.int .i64 FB.2) ∧ Below w.heap.size w wx)
  case first =>
    go_wp2_with fail
    refine (keys_any _).mono ?_
    rintro e w4 ⟨rfl, hb4⟩
    have B4 : Below w.heap.size w w4 := bcall (by go_grown) hb4 (by go_size)
    have s4 := B4.size
    have q4 : w3.heap.size + 1 ≤ w4.heap.size := by have h := hb4.size; first | omega | (simp at h; omega)
    obtain ⟨ba0, ba1, baf, bag, bal⟩ := ((Box2.mk ba0 ba1 baf bag bal).alloc (.cells #[(.int .i64 FC.1), (.int .i64 FC.2)] 26)).below hb4 (by go_size)
    obtain ⟨bb0, bb1, bbf, bbg, bbl⟩ := ((Box2.mk bb0 bb1 bbf bbg bbl).alloc (.cells #[(.int .i64 FC.1), (.int .i64 FC.2)] 26)).below hb4 (by go_size)
    obtain ⟨bc0, bc1, bcf, bcg, bcl⟩ := (Box2.new w3 (.int .i64 FC.1) (.int .i64 FC.2) 26).below hb4 (by go_size)
    replace hs := (hs.below (by go_grown) (Nat.le_refl _)).below hb4 (Nat.le_refl _)
    clear hb4
    rcases hA.out with ⟨a1, rfl⟩ | ⟨a1, rfl⟩ | ⟨a1, rfl⟩ <;> rcases hB.out with ⟨a2, rfl⟩ | ⟨a2, rfl⟩ | ⟨a2, rfl⟩ <;> rcases hC.out with ⟨a3, rfl⟩ | ⟨a3, rfl⟩ | ⟨a3, rfl⟩ <;> (go_wp2_with fail; go_meet; exact ⟨rfl, Box2.mk bb0 bb1 bbf bbg bbl, by go_grown⟩)
  case rest =>
    obtain ⟨rfl, hbx, hbw⟩ := hcut
    obtain ⟨bb0, bb1, bbf, bbg, bbl⟩ := hbx
    cases h1 : decide (b < a) with
    | true => go_wp2_with fail; go_ret; exact ⟨ret_true (by simp), by go_grown⟩
    | false =>
      cases h2 : decide (c < b) with
      | true => go_wp2_with fail; go_ret; exact ⟨ret_true (by simp), by go_grown⟩
      | false =>
        have h3 := N4.out (by simpa using h1) (by simpa using h2)
        replace h3 := Lib.hid h3
        clear N4 hA hB hC
        cases BA with
        | false => go_wp2_with fail; go_ret; exact ⟨ret_true (by simp), by go_grown⟩
        | true =>
          cases BC with
          | false => go_wp2_with fail; go_ret; exact ⟨ret_true (by simp), by go_grown⟩
          | true =>
            obtain ⟨rfl, h4⟩ := h3.out rfl rfl
            have h5 : (FB.1 == 0) = true := by simp [h4]
            clear h3 h4
            go_wp2_with fail
            go_ret
            exact ⟨ret_true (by simp), by go_grown⟩
end Go.Proofs.Ytkhkijpkgogncaa
