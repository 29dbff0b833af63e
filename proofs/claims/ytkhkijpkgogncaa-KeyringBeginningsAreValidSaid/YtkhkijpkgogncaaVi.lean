/- Contracts: the closed example of package keyring holds. -/
import Derived.Test.YtkhkijpkgogncaaVe
import Derived.Test.YtkhkijpkgogncaaWh
namespace Go.Proofs.Ytkhkijpkgogncaa
open Go.RowKit

def addL : List Pl.Ev := [⟨1, 5, 3, 10⟩, ⟨2, 5, 0, 20⟩]
theorem addL_wf : ∀ e ∈ addL, (Lit.int .i64 e.key).wf = true := by
  intro e he
  simp only [addL, List.mem_cons, List.not_mem_nil, or_false] at he
  rcases he with rfl | rfl <;> decide
theorem added_any (w : World) : Calls Try.prog 57 #[] w fun e w' => ∃ b c, e = .returned (.slice (some ⟨b, 0, none⟩) 2 c) ∧ Sl w' (some ⟨b, 0, none⟩) 2 c 4 (quadVals addL) ∧ Below w.heap.size w w' := by
  go_enter Try.func57, Try.ntmps57
  go_wp2
  refine bodyPost_ret (v := .slice (some ⟨w.heap.size, 0, none⟩) 2 2) (by simp [results, Try.results57, go_sem]) rfl ⟨_, _, rfl, ?_, by go_grown⟩
  exact Sl.fresh (C := quadVals addL) rfl rfl (Nat.le_refl _) (by simp [maxLen])
/-- The end of a slice of events. -/
theorem Sl.dropQ {w : World} {b off cap : Nat} {l : List Pl.Ev} {n k : Nat} (hn : l.length = n) (h : Sl w (some ⟨b, off, none⟩) n cap 4 (quadVals l)) (hk : k ≤ n) : Sl w (some ⟨b, off + k * 4, none⟩) (n - k) (cap - k) 4 (quadVals (l.drop k)) := by
  subst hn
  refine ⟨by rw [quadVals_length, List.length_drop], by have := h.hcap; omega, by have := h.hmax; omega, ?_⟩
  rcases h.mem with h0 | ⟨b', off', h1, h2, h3⟩
  · left
    have := congrArg List.length h0
    rw [quadVals_length] at this
    have h2 : l = [] := List.eq_nil_of_length_eq_zero (by simp at this; omega)
    rw [h2]; simp [quadVals]
  · cases h1
    right
    refine ⟨b, off + k * 4, rfl, h2, fun j u hu => ?_⟩
    rw [← quadVals_drop, List.getElem?_drop] at hu
    have := h3 _ u hu
    rwa [← Nat.add_assoc] at this
set_option maxHeartbeats 4000000 in
theorem keys_any (w : World) : Calls Try.prog 32 #[] w fun e w' => e = .returned (.bool true) ∧ Below w.heap.size w w' := by
  have A0 := Lib.hid (show Pl.validB addL 5 19 = true by decide +kernel)
  have A1 := Lib.hid (show Pl.validF addL 5 19 = (0, 0) by decide +kernel)
  have A2 := Lib.hid (show Pl.validB addL 5 20 = false by decide +kernel)
  have A3 := Lib.hid (show Pl.validF addL 5 20 = (0, 0) by decide +kernel)
  have A4 := Lib.hid (show Pl.ownerV addL 5 = 3 by decide +kernel)
  have A5 := Lib.hid (show Pl.ownerF addL 5 = (0, 0) by decide +kernel)
  have A6 := Lib.hid (show Pl.ukV addL 3 10 = [5] by decide +kernel)
  have A7 := Lib.hid (show Pl.ukF addL 3 10 = (0, 0) by decide +kernel)
  have A8 := Lib.hid (show Pl.krF (addL.drop 1) = (6, 0) by decide +kernel)
  go_enter Try.func32, Try.ntmps32
  go_wp2_with fail
  have hm2 : addL.length ≤ 9223372036854775807 := by decide
  refine (added_any _).mono ?_
  rintro e w1 ⟨b1, c1, rfl, sx, hb1⟩
  have B1 : Below w.heap.size w w1 := bcall (by go_grown) hb1 (by go_size)
  have s1 := B1.size
  have q1 : w.heap.size ≤ w1.heap.size := by have h := hb1.size; first | omega | (simp at h; omega)
  clear hb1
  go_wp2_with fail
  refine (kValid_any addL 5 19 _ c1 _ sx hm2 addL_wf).mono ?_
  rw [A0.out, A1.out]
  rintro e w2 ⟨rfl, hb2⟩
  have B2 : Below w.heap.size w w2 := bcall (by go_grown) hb2 (by go_size)
  have s2 := B2.size
  have q2 : w1.heap.size ≤ w2.heap.size := by have h := hb2.size; first | omega | (simp at h; omega)
  clear hb2
  go_wp2_with fail
  clear sx
  refine (added_any _).mono ?_
  rintro e w3 ⟨b2, c2, rfl, sx, hb3⟩
  have B3 : Below w.heap.size w w3 := bcall (by go_grown) hb3 (by go_size)
  have s3 := B3.size
  have q3 : w2.heap.size + 1 ≤ w3.heap.size := by have h := hb3.size; first | omega | (simp at h; omega)
  obtain ⟨ba0, ba1, baf, bag, bal⟩ := (Box2.new w2 (.int .i64 0) (.int .i64 0) 26).below hb3 (by go_size)
  clear hb3
  go_wp2_with fail
  refine (kValid_any addL 5 20 _ c2 _ sx hm2 addL_wf).mono ?_
  rw [A2.out, A3.out]
  rintro e w4 ⟨rfl, hb4⟩
  have B4 : Below w.heap.size w w4 := bcall (by go_grown) hb4 (by go_size)
  have s4 := B4.size
  have q4 : w3.heap.size ≤ w4.heap.size := by have h := hb4.size; first | omega | (simp at h; omega)
  obtain ⟨ba0, ba1, baf, bag, bal⟩ := (Box2.mk ba0 ba1 baf bag bal).below hb4 (by go_size)
  clear hb4
  go_wp2_with fail
  clear sx
  refine (added_any _).mono ?_
  rintro e w5 ⟨b3, c3, rfl, sx, hb5⟩
  have B5 : Below w.heap.size w w5 := bcall (by go_grown) hb5 (by go_size)
  have s5 := B5.size
  have q5 : w4.heap.size + 1 ≤ w5.heap.size := by have h := hb5.size; first | omega | (simp at h; omega)
  obtain ⟨ba0, ba1, baf, bag, bal⟩ := ((Box2.mk ba0 ba1 baf bag bal).alloc (.cells #[(.int .i64 0), (.int .i64 0)] 26)).below hb5 (by go_size)
  obtain ⟨bb0, bb1, bbf, bbg, bbl⟩ := (Box2.new w4 (.int .i64 0) (.int .i64 0) 26).below hb5 (by go_size)
  clear hb5
  go_wp2_with fail
  refine (kOwner_any addL 5 _ c3 _ sx hm2 addL_wf).mono ?_
  rw [A4.out, A5.out]
  rintro e w6 ⟨rfl, hb6⟩
  have B6 : Below w.heap.size w w6 := bcall (by go_grown) hb6 (by go_size)
  have s6 := B6.size
  have q6 : w5.heap.size ≤ w6.heap.size := by have h := hb6.size; first | omega | (simp at h; omega)
  obtain ⟨ba0, ba1, baf, bag, bal⟩ := (Box2.mk ba0 ba1 baf bag bal).below hb6 (by go_size)
  obtain ⟨bb0, bb1, bbf, bbg, bbl⟩ := (Box2.mk bb0 bb1 bbf bbg bbl).below hb6 (by go_size)
  clear hb6
  go_wp2_with fail
  clear sx
  refine (added_any _).mono ?_
  rintro e w7 ⟨b4, c4, rfl, sx, hb7⟩
  have B7 : Below w.heap.size w w7 := bcall (by go_grown) hb7 (by go_size)
  have s7 := B7.size
  have q7 : w6.heap.size + 1 ≤ w7.heap.size := by have h := hb7.size; first | omega | (simp at h; omega)
  obtain ⟨ba0, ba1, baf, bag, bal⟩ := ((Box2.mk ba0 ba1 baf bag bal).alloc (.cells #[(.int .i64 0), (.int .i64 0)] 26)).below hb7 (by go_size)
  obtain ⟨bb0, bb1, bbf, bbg, bbl⟩ := ((Box2.mk bb0 bb1 bbf bbg bbl).alloc (.cells #[(.int .i64 0), (.int .i64 0)] 26)).below hb7 (by go_size)
  obtain ⟨bc0, bc1, bcf, bcg, bcl⟩ := (Box2.new w6 (.int .i64 0) (.int .i64 0) 26).below hb7 (by go_size)
  clear hb7
  go_wp2_with fail
  refine (kKeys_any addL 3 10 _ c4 _ sx hm2 addL_wf).mono ?_
  rw [A6.out, A7.out]
  rintro e w8 ⟨o5, k5, rfl, own5, hb8⟩
  have sl5 := Sl.own own5
  clear own5
  simp only [List.length_singleton] at sl5 ⊢
  have B8 : Below w.heap.size w w8 := bcall (by go_grown) hb8 (by go_size)
  have s8 := B8.size
  have q8 : w7.heap.size ≤ w8.heap.size := by have h := hb8.size; first | omega | (simp at h; omega)
  obtain ⟨ba0, ba1, baf, bag, bal⟩ := (Box2.mk ba0 ba1 baf bag bal).below hb8 (by go_size)
  obtain ⟨bb0, bb1, bbf, bbg, bbl⟩ := (Box2.mk bb0 bb1 bbf bbg bbl).below hb8 (by go_size)
  obtain ⟨bc0, bc1, bcf, bcg, bcl⟩ := (Box2.mk bc0 bc1 bcf bcg bcl).below hb8 (by go_size)
  clear hb8
  go_wp2_with fail
  clear sx
  refine (Ints_any [5] [5] o5 _ k5 1 _ (sl5.below (by go_grown) (Nat.le_refl _)) (Sl.fresh (C := intVals [5]) (by simp) rfl (Nat.le_refl _) (by simp [maxLen])) (by simp) (by simp)).mono ?_
  rw [decide_eq_true (Eq.refl ([5] : List Int))]
  rintro e w9 ⟨rfl, hb9⟩
  have B9 : Below w.heap.size w w9 := bcall (by go_grown) hb9 (by go_size)
  have s9 := B9.size
  have q9 : w8.heap.size + 2 ≤ w9.heap.size := by have h := hb9.size; first | omega | (simp at h; omega)
  obtain ⟨ba0, ba1, baf, bag, bal⟩ := (((Box2.mk ba0 ba1 baf bag bal).alloc (.cells #[(.int .i64 0), (.int .i64 0)] 26)).alloc (.cells #[.int .i64 5] 3)).below hb9 (by go_size)
  obtain ⟨bb0, bb1, bbf, bbg, bbl⟩ := (((Box2.mk bb0 bb1 bbf bbg bbl).alloc (.cells #[(.int .i64 0), (.int .i64 0)] 26)).alloc (.cells #[.int .i64 5] 3)).below hb9 (by go_size)
  obtain ⟨bc0, bc1, bcf, bcg, bcl⟩ := (((Box2.mk bc0 bc1 bcf bcg bcl).alloc (.cells #[(.int .i64 0), (.int .i64 0)] 26)).alloc (.cells #[.int .i64 5] 3)).below hb9 (by go_size)
  obtain ⟨bd0, bd1, bdf, bdg, bdl⟩ := ((Box2.new w8 (.int .i64 0) (.int .i64 0) 26).alloc (.cells #[.int .i64 5] 3)).below hb9 (by go_size)
  replace sl5 := (sl5.below (by go_grown) (Nat.le_refl _)).below hb9 (Nat.le_refl _)
  clear hb9
  go_wp2_with fail
  clear sl5
  refine (added_any _).mono ?_
  rintro e w10 ⟨b6, c6, rfl, sx, hb10⟩
  have B10 : Below w.heap.size w w10 := bcall (by go_grown) hb10 (by go_size)
  have s10 := B10.size
  have q10 : w9.heap.size ≤ w10.heap.size := by have h := hb10.size; first | omega | (simp at h; omega)
  obtain ⟨ba0, ba1, baf, bag, bal⟩ := (Box2.mk ba0 ba1 baf bag bal).below hb10 (by go_size)
  obtain ⟨bb0, bb1, bbf, bbg, bbl⟩ := (Box2.mk bb0 bb1 bbf bbg bbl).below hb10 (by go_size)
  obtain ⟨bc0, bc1, bcf, bcg, bcl⟩ := (Box2.mk bc0 bc1 bcf bcg bcl).below hb10 (by go_size)
  obtain ⟨bd0, bd1, bdf, bdg, bdl⟩ := (Box2.mk bd0 bd1 bdf bdg bdl).below hb10 (by go_size)
  clear hb10
  have k5 : 1 < c6 := by have := sx.hcap; omega
  have k5n : ¬ c6 = 1 := by omega
  have k5i : (1 : Int) < (c6 : Int) := by omega
  have k5m : ¬ c6 ≤ 1 := by omega
  have k5o : 1 ≤ c6 := by omega
  have k5p : (1 : Int) ≤ (c6 : Int) := by omega
  go_wp2_with fail
  have sd : Sl w10 (some ⟨b6, 4, none⟩) 1 (c6 - 1) 4 (quadVals (addL.drop 1)) := by have h := Sl.dropQ (l := addL) (n := 2) (k := 1) rfl sx (by decide); simpa using h
  refine (kValidate_any (addL.drop 1) _ (c6 - 1) _ sd (by decide) (fun e he => addL_wf e (List.mem_of_mem_drop he))).mono ?_
  rw [A8.out]
  rintro e w11 ⟨rfl, hb11⟩
  have B11 : Below w.heap.size w w11 := bcall (by go_grown) hb11 (by go_size)
  have s11 := B11.size
  have q11 : w10.heap.size ≤ w11.heap.size := by have h := hb11.size; first | omega | (simp at h; omega)
  obtain ⟨ba0, ba1, baf, bag, bal⟩ := (Box2.mk ba0 ba1 baf bag bal).below hb11 (by go_size)
  obtain ⟨bb0, bb1, bbf, bbg, bbl⟩ := (Box2.mk bb0 bb1 bbf bbg bbl).below hb11 (by go_size)
  obtain ⟨bc0, bc1, bcf, bcg, bcl⟩ := (Box2.mk bc0 bc1 bcf bcg bcl).below hb11 (by go_size)
  obtain ⟨bd0, bd1, bdf, bdg, bdl⟩ := (Box2.mk bd0 bd1 bdf bdg bdl).below hb11 (by go_size)
  clear hb11
  go_wp2_with fail
  refine (fault_any _ _ _).mono ?_
  rintro e w12 ⟨rfl, hb12⟩
  have B12 : Below w.heap.size w w12 := bcall (by go_grown) hb12 (by go_size)
  have s12 := B12.size
  have q12 : w11.heap.size ≤ w12.heap.size := by have h := hb12.size; first | omega | (simp at h; omega)
  obtain ⟨ba0, ba1, baf, bag, bal⟩ := (Box2.mk ba0 ba1 baf bag bal).below hb12 (by go_size)
  obtain ⟨bb0, bb1, bbf, bbg, bbl⟩ := (Box2.mk bb0 bb1 bbf bbg bbl).below hb12 (by go_size)
  obtain ⟨bc0, bc1, bcf, bcg, bcl⟩ := (Box2.mk bc0 bc1 bcf bcg bcl).below hb12 (by go_size)
  obtain ⟨bd0, bd1, bdf, bdg, bdl⟩ := (Box2.mk bd0 bd1 bdf bdg bdl).below hb12 (by go_size)
  clear hb12
  go_wp2_with fail
  go_ret
  exact ⟨ret_true (by simp), by go_grown⟩
end Go.Proofs.Ytkhkijpkgogncaa
