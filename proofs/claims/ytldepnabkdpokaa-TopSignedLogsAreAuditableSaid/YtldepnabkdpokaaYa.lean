/- The closed example of the packages that sign holds. -/
import Derived.Test.YtldepnabkdpokaaVe
import Derived.Test.YtldepnabkdpokaaXf
import Derived.Test.YtldepnabkdpokaaTc
namespace Go.Proofs.Ytldepnabkdpokaa
open Go.RowKit

def oneL : List Pl.Ev := [⟨1, 5, 3, 1⟩]
theorem oneL_wf : ∀ e ∈ oneL, (Lit.int .i64 e.key).wf = true := by
  intro e he
  simp only [oneL, List.mem_cons, List.not_mem_nil, or_false] at he
  subst he; decide
set_option maxRecDepth 100000 in
set_option maxHeartbeats 4000000 in
theorem kernSigns_any (w : World) : Calls Try.prog 5 #[] w fun e w' => e = .returned (.bool true) ∧ Below w.heap.size w w' := by
  have A0 := Lib.hid (show Pl.signV 1 [] = 1000041 by decide +kernel)
  have A1 := Lib.hid (show Pl.signF 1 0 = (0, 0) by decide +kernel)
  have A2 := Lib.hid (show Pl.msgV [258] = [0, 0, 0, 0, 0, 0, 1, 2] by decide +kernel)
  have A3 := Lib.hid (show Pl.msgF [258] = (0, 0) by decide +kernel)
  have A4 := Lib.hid (show Pl.rootV [1, 2] = 1000072 by decide +kernel)
  have A5 := Lib.hid (show Pl.msgF [1, 2] = (0, 0) by decide +kernel)
  have A6 := Lib.hid (show Pl.ukV oneL 3 1 = [5] by decide +kernel)
  have A7 := Lib.hid (show Pl.ukF oneL 3 1 = (0, 0) by decide +kernel)
  have A8 := Lib.hid (show Pl.signersV [1] [] [(1, 1000041)] = [1] by decide +kernel)
  have A9 := Lib.hid (show Pl.sigF [1] 0 [(1, 1000041)] = (0, 0) by decide +kernel)
  go_enter Try.func5, Try.ntmps5
  go_wp2_with fail
  refine (Sign_any 1 [] none 0 _ (Sl.nil _ _) (by decide)).mono ?_
  rw [List.length_nil, A0.out, A1.out]
  rintro e w1 ⟨rfl, hb1⟩
  have B1 : Below w.heap.size w w1 := bcall (by go_grown) hb1 (by go_size)
  have s1 := B1.size
  have q1 : w.heap.size ≤ w1.heap.size := by have h := hb1.size; first | omega | (simp at h; omega)
  clear hb1
  go_wp2_with fail
  refine (Message_any [258] _ 1 _ (Sl.fresh (C := intVals [258]) (by simp) rfl (by decide) (by decide)) (by decide)).mono ?_
  rintro e w2 ⟨o2, k2, rfl, own2, hb2⟩
  rw [A3.out, A2.out]
  clear own2
  have B2 : Below w.heap.size w w2 := bcall (by go_grown) hb2 (by go_size)
  have s2 := B2.size
  have q2 : w1.heap.size + 2 ≤ w2.heap.size := by have h := hb2.size; first | omega | (simp at h; omega)
  obtain ⟨ba0, ba1, baf, bag, bal⟩ := ((Box2.new w1 (.int .i64 0) (.int .i64 0) 27).alloc (.cells #[.int .i64 258] 3)).below hb2 (by go_size)
  clear hb2
  go_wp2_with fail
  refine (Root_any [1, 2] _ 2 _ (Sl.fresh (C := intVals [1, 2]) (by simp) rfl (Nat.le_refl _) (by simp [maxLen])) (by simp)).mono ?_
  rw [A4.out, A5.out]
  rintro e w3 ⟨rfl, hb3⟩
  have B3 : Below w.heap.size w w3 := bcall (by go_grown) hb3 (by go_size)
  have s3 := B3.size
  have q3 : w2.heap.size + 2 ≤ w3.heap.size := by have h := hb3.size; first | omega | (simp at h; omega)
  obtain ⟨ba0, ba1, baf, bag, bal⟩ := (((Box2.mk ba0 ba1 baf bag bal).alloc (.cells #[(.int .i64 0), (.int .i64 0)] 27)).alloc (.cells #[.int .i64 1, .int .i64 2] 3)).below hb3 (by go_size)
  obtain ⟨bb0, bb1, bbf, bbg, bbl⟩ := ((Box2.new w2 (.int .i64 0) (.int .i64 0) 27).alloc (.cells #[.int .i64 1, .int .i64 2] 3)).below hb3 (by go_size)
  clear hb3
  go_wp2_with fail
  refine (kKeys_any oneL 3 1 _ 1 _ (Sl.fresh (C := quadVals oneL) (by simp) rfl (Nat.le_refl _) (by simp [maxLen])) (by decide) oneL_wf).mono ?_
  rw [A6.out, A7.out]
  rintro e w4 ⟨o4, k4, rfl, own4, hb4⟩
  have sl4 := Sl.own own4
  clear own4
  simp only [List.length_singleton] at sl4 ⊢
  have B4 : Below w.heap.size w w4 := bcall (by go_grown) hb4 (by go_size)
  have s4 := B4.size
  have q4 : w3.heap.size + 2 ≤ w4.heap.size := by have h := hb4.size; first | omega | (simp at h; omega)
  obtain ⟨ba0, ba1, baf, bag, bal⟩ := (((Box2.mk ba0 ba1 baf bag bal).alloc (.cells #[(.int .i64 0), (.int .i64 0)] 27)).alloc (.cells #[.int .i64 1, .int .i64 5, .int .i64 3, .int .i64 1] 34)).below hb4 (by go_size)
  obtain ⟨bb0, bb1, bbf, bbg, bbl⟩ := (((Box2.mk bb0 bb1 bbf bbg bbl).alloc (.cells #[(.int .i64 0), (.int .i64 0)] 27)).alloc (.cells #[.int .i64 1, .int .i64 5, .int .i64 3, .int .i64 1] 34)).below hb4 (by go_size)
  obtain ⟨bc0, bc1, bcf, bcg, bcl⟩ := ((Box2.new w3 (.int .i64 0) (.int .i64 0) 27).alloc (.cells #[.int .i64 1, .int .i64 5, .int .i64 3, .int .i64 1] 34)).below hb4 (by go_size)
  clear hb4
  go_wp2_with fail
  refine (Signers_any [1] [] [(1, 1000041)] _ none _ 1 0 1 _ ((Sl.fresh (C := intVals [1]) (n := 1) (cap := 1) (k := w4.heap.size + 1) (by simp) rfl (Nat.le_refl _) (by simp [maxLen])).below ((Below.refl _ _).alloc (Nat.le_refl _) _) (Nat.le_refl _)) (by decide) (Sl.nil _ _) (by decide) (Sl.fresh (C := pairVals [(1, 1000041)]) (by simp) rfl (Nat.le_refl _) (by simp [maxLen])) (by decide)).mono ?_
  rintro e w5 ⟨o5, k5, rfl, own5, hb5⟩
  rw [A8.out] at own5
  rw [A8.out, List.length_nil, A9.out]
  have sl5 := Sl.own own5
  clear own5
  simp only [List.length_singleton] at sl5 ⊢
  have B5 : Below w.heap.size w w5 := bcall (by go_grown) hb5 (by go_size)
  have s5 := B5.size
  have q5 : w4.heap.size + 3 ≤ w5.heap.size := by have h := hb5.size; first | omega | (simp at h; omega)
  obtain ⟨ba0, ba1, baf, bag, bal⟩ := ((((Box2.mk ba0 ba1 baf bag bal).alloc (.cells #[(.int .i64 0), (.int .i64 0)] 27)).alloc (.cells #[.int .i64 1] 3)).alloc (.cells #[.int .i64 1, .int .i64 1000041] 36)).below hb5 (by go_size)
  obtain ⟨bb0, bb1, bbf, bbg, bbl⟩ := ((((Box2.mk bb0 bb1 bbf bbg bbl).alloc (.cells #[(.int .i64 0), (.int .i64 0)] 27)).alloc (.cells #[.int .i64 1] 3)).alloc (.cells #[.int .i64 1, .int .i64 1000041] 36)).below hb5 (by go_size)
  obtain ⟨bc0, bc1, bcf, bcg, bcl⟩ := ((((Box2.mk bc0 bc1 bcf bcg bcl).alloc (.cells #[(.int .i64 0), (.int .i64 0)] 27)).alloc (.cells #[.int .i64 1] 3)).alloc (.cells #[.int .i64 1, .int .i64 1000041] 36)).below hb5 (by go_size)
  obtain ⟨bd0, bd1, bdf, bdg, bdl⟩ := (((Box2.new w4 (.int .i64 0) (.int .i64 0) 27).alloc (.cells #[.int .i64 1] 3)).alloc (.cells #[.int .i64 1, .int .i64 1000041] 36)).below hb5 (by go_size)
  replace sl4 := (sl4.below (by go_grown) (Nat.le_refl _)).below hb5 (Nat.le_refl _)
  clear hb5
  go_wp2_with fail
  refine (Ints_any [5] [5] o4 _ k4 1 _ (sl4.below (by go_grown) (Nat.le_refl _)) (Sl.fresh (C := intVals [5]) (by simp) rfl (Nat.le_refl _) (by simp [maxLen])) (by simp) (by simp)).mono ?_
  rw [decide_eq_true (Eq.refl ([5] : List Int))]
  rintro e w6 ⟨rfl, hb6⟩
  have B6 : Below w.heap.size w w6 := bcall (by go_grown) hb6 (by go_size)
  have s6 := B6.size
  have q6 : w5.heap.size + 2 ≤ w6.heap.size := by have h := hb6.size; first | omega | (simp at h; omega)
  obtain ⟨ba0, ba1, baf, bag, bal⟩ := (((Box2.mk ba0 ba1 baf bag bal).alloc (.cells #[(.int .i64 0), (.int .i64 0)] 27)).alloc (.cells #[.int .i64 5] 3)).below hb6 (by go_size)
  obtain ⟨bb0, bb1, bbf, bbg, bbl⟩ := (((Box2.mk bb0 bb1 bbf bbg bbl).alloc (.cells #[(.int .i64 0), (.int .i64 0)] 27)).alloc (.cells #[.int .i64 5] 3)).below hb6 (by go_size)
  obtain ⟨bc0, bc1, bcf, bcg, bcl⟩ := (((Box2.mk bc0 bc1 bcf bcg bcl).alloc (.cells #[(.int .i64 0), (.int .i64 0)] 27)).alloc (.cells #[.int .i64 5] 3)).below hb6 (by go_size)
  obtain ⟨bd0, bd1, bdf, bdg, bdl⟩ := (((Box2.mk bd0 bd1 bdf bdg bdl).alloc (.cells #[(.int .i64 0), (.int .i64 0)] 27)).alloc (.cells #[.int .i64 5] 3)).below hb6 (by go_size)
  obtain ⟨be0, be1, bef, beg, bel⟩ := ((Box2.new w5 (.int .i64 0) (.int .i64 0) 27).alloc (.cells #[.int .i64 5] 3)).below hb6 (by go_size)
  replace sl4 := (sl4.below (by go_grown) (Nat.le_refl _)).below hb6 (Nat.le_refl _)
  replace sl5 := (sl5.below (by go_grown) (Nat.le_refl _)).below hb6 (Nat.le_refl _)
  clear hb6
  go_wp2_with fail
  refine (Ints_any [1] [1] o5 _ k5 1 _ (sl5.below (by go_grown) (Nat.le_refl _)) (Sl.fresh (C := intVals [1]) (by simp) rfl (Nat.le_refl _) (by simp [maxLen])) (by simp) (by simp)).mono ?_
  rw [decide_eq_true (Eq.refl ([1] : List Int))]
  rintro e w7 ⟨rfl, hb7⟩
  have B7 : Below w.heap.size w w7 := bcall (by go_grown) hb7 (by go_size)
  have s7 := B7.size
  have q7 : w6.heap.size + 1 ≤ w7.heap.size := by have h := hb7.size; first | omega | (simp at h; omega)
  obtain ⟨ba0, ba1, baf, bag, bal⟩ := ((Box2.mk ba0 ba1 baf bag bal).alloc (.cells #[.int .i64 1] 3)).below hb7 (by go_size)
  obtain ⟨bb0, bb1, bbf, bbg, bbl⟩ := ((Box2.mk bb0 bb1 bbf bbg bbl).alloc (.cells #[.int .i64 1] 3)).below hb7 (by go_size)
  obtain ⟨bc0, bc1, bcf, bcg, bcl⟩ := ((Box2.mk bc0 bc1 bcf bcg bcl).alloc (.cells #[.int .i64 1] 3)).below hb7 (by go_size)
  obtain ⟨bd0, bd1, bdf, bdg, bdl⟩ := ((Box2.mk bd0 bd1 bdf bdg bdl).alloc (.cells #[.int .i64 1] 3)).below hb7 (by go_size)
  obtain ⟨be0, be1, bef, beg, bel⟩ := ((Box2.mk be0 be1 bef beg bel).alloc (.cells #[.int .i64 1] 3)).below hb7 (by go_size)
  replace sl4 := (sl4.below (by go_grown) (Nat.le_refl _)).below hb7 (Nat.le_refl _)
  replace sl5 := (sl5.below (by go_grown) (Nat.le_refl _)).below hb7 (Nat.le_refl _)
  clear hb7
  go_wp2_with fail
  go_ret
  exact ⟨ret_true (by simp), by go_grown⟩
end Go.Proofs.Ytldepnabkdpokaa
