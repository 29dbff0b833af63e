/- Contracts: the closed example of package translog holds; the first bad condition. -/
import Derived.Test.YtplcbhcbahiheaaTn
import Derived.Test.YtplcbhcbahiheaaXf
namespace Go.Proofs.Ytplcbhcbahiheaa
open Go.RowKit

theorem firstBad_any (a b c d : Bool) (p : List Int) (oa : Option Addr) (cap : Nat) (w : World) (hs : Sl w oa p.length cap 1 (intVals p)) (hm : p.length ≤ 9223372036854775807) :
    Calls Try.prog 25 #[.bool a, .bool b, .bool c, .bool d, .slice oa p.length cap] w fun e w' => e = .returned (.agg #[.int .i64 (Pl.fbF a b c d (Pl.prfF p)).1, .int .i64 (Pl.fbF a b c d (Pl.prfF p)).2]) ∧ Below w.heap.size w w' := by
  cases a
  · go_enter Try.func25, Try.ntmps25
    go_wp2_with fail
    refine (fault_any _ _ _).mono ?_
    rintro e w1 ⟨rfl, hb⟩
    obtain ⟨c0, c1, f0, f1, l1⟩ := (Box2.new w (.int .i64 0) (.int .i64 0) 24).below hb (by simp)
    have B1 : Below w.heap.size w w1 := bcall (by go_grown) hb (by simp)
    go_wp2_with fail
    refine bodyPost_ret (v := .agg #[.int .i64 3, .int .i64 0]) (by simp [results, Try.results25, go_sem, c0, c1]) rfl ⟨rfl, by go_grown⟩
  · skip
    cases b
    · go_enter Try.func25, Try.ntmps25
      go_wp2_with fail
      refine (fault_any _ _ _).mono ?_
      rintro e w1 ⟨rfl, hb⟩
      obtain ⟨c0, c1, f0, f1, l1⟩ := (Box2.new w (.int .i64 0) (.int .i64 0) 24).below hb (by simp)
      have B1 : Below w.heap.size w w1 := bcall (by go_grown) hb (by simp)
      go_wp2_with fail
      refine bodyPost_ret (v := .agg #[.int .i64 3, .int .i64 1]) (by simp [results, Try.results25, go_sem, c0, c1]) rfl ⟨rfl, by go_grown⟩
    · skip
      cases c
      · go_enter Try.func25, Try.ntmps25
        go_wp2_with fail
        refine (fault_any _ _ _).mono ?_
        rintro e w1 ⟨rfl, hb⟩
        obtain ⟨c0, c1, f0, f1, l1⟩ := (Box2.new w (.int .i64 0) (.int .i64 0) 24).below hb (by simp)
        have B1 : Below w.heap.size w w1 := bcall (by go_grown) hb (by simp)
        go_wp2_with fail
        refine bodyPost_ret (v := .agg #[.int .i64 3, .int .i64 2]) (by simp [results, Try.results25, go_sem, c0, c1]) rfl ⟨rfl, by go_grown⟩
      · skip
        cases d
        · go_enter Try.func25, Try.ntmps25
          go_wp2_with fail
          refine (fault_any _ _ _).mono ?_
          rintro e w1 ⟨rfl, hb⟩
          obtain ⟨c0, c1, f0, f1, l1⟩ := (Box2.new w (.int .i64 0) (.int .i64 0) 24).below hb (by simp)
          have B1 : Below w.heap.size w w1 := bcall (by go_grown) hb (by simp)
          go_wp2_with fail
          refine bodyPost_ret (v := .agg #[.int .i64 3, .int .i64 3]) (by simp [results, Try.results25, go_sem, c0, c1]) rfl ⟨rfl, by go_grown⟩
        · go_enter Try.func25, Try.ntmps25
          go_wp2_with fail
          refine (ProofFault_any p oa cap _ (hs.below (by go_grown) (Nat.le_refl _)) hm).mono ?_
          rintro e w1 ⟨rfl, hb⟩
          obtain ⟨c0, c1, f0, f1, l1⟩ := (Box2.new w (.int .i64 0) (.int .i64 0) 24).below hb (by simp)
          have B1 : Below w.heap.size w w1 := bcall (by go_grown) hb (by simp)
          go_wp2_with fail
          refine bodyPost_ret (v := .agg #[.int .i64 (Pl.prfF p).1, .int .i64 (Pl.prfF p).2]) (by simp [results, Try.results25, go_sem, c0, c1]) rfl ⟨rfl, by go_grown⟩
theorem logs_any (w : World) : Calls Try.prog 16 #[] w fun e w' => e = .returned (.bool true) ∧ Below w.heap.size w w' := by
  have A0 := Lib.hid (show Pl.rootV [1, 2] = 1000072 by decide +kernel)
  have A1 := Lib.hid (show Pl.msgF [1, 2] = (0, 0) by decide +kernel)
  have A2 := Lib.hid (show Pl.prvV [1, 2] 0 = [2] by decide +kernel)
  have A3 := Lib.hid (show Pl.prvF [1, 2] 0 = (0, 0) by decide +kernel)
  have A4 := Lib.hid (show Pl.pcoV [1, 2, 3] 2 = [3] by decide +kernel)
  have A5 := Lib.hid (show Pl.pcoF [1, 2, 3] 2 = (0, 0) by decide +kernel)
  have A6 := Lib.hid (show Pl.tvB 1000072 2 0 1 [2] = true by decide +kernel)
  have A7 := Lib.hid (show Pl.tvF 1000072 2 0 1 [2] = (0, 0) by decide +kernel)
  have A8 := Lib.hid (show Pl.tvB 1000072 2 0 3 [2] = false by decide +kernel)
  have A9 := Lib.hid (show Pl.tvF 1000072 2 0 3 [2] = (0, 0) by decide +kernel)
  have A10 := Lib.hid (show Pl.vcoB 1000072 2 (Pl.pairS 1000072 3) 3 [3] = true by decide +kernel)
  have A11 := Lib.hid (show Pl.vcoF 1000072 2 (Pl.pairS 1000072 3) 3 [3] = (0, 0) by decide +kernel)
  go_enter Try.func16, Try.ntmps16
  go_wp2_with fail
  refine (Root_any [1, 2] _ 2 _ (Sl.fresh (C := intVals [1, 2]) (by simp) rfl (Nat.le_refl _) (by simp [maxLen])) (by simp)).mono ?_
  rw [A0.out, A1.out]
  rintro e w1 ⟨rfl, hb1⟩
  have B1 : Below w.heap.size w w1 := bcall (by go_grown) hb1 (by go_size)
  have s1 := B1.size
  have q1 : w.heap.size + 1 ≤ w1.heap.size := by have h := hb1.size; first | omega | (simp at h; omega)
  clear hb1
  go_wp2_with fail
  refine (Prove_any [1, 2] 0 _ 2 _ (Sl.fresh (C := intVals [1, 2]) (by simp) rfl (Nat.le_refl _) (by simp [maxLen])) (by simp)).mono ?_
  rintro e w2 ⟨v2, rfl, own2, hb2⟩
  rw [A3.out]
  rw [A2.out] at own2
  obtain ⟨o2, k2, rfl⟩ := own_slice own2
  have sl2 := Sl.own own2
  clear own2
  have B2 : Below w.heap.size w w2 := bcall (by go_grown) hb2 (by go_size)
  have s2 := B2.size
  have q2 : w1.heap.size + 2 ≤ w2.heap.size := by have h := hb2.size; first | omega | (simp at h; omega)
  obtain ⟨ba0, ba1, baf, bag, bal⟩ := ((Box2.new w1 (.int .i64 0) (.int .i64 0) 24).alloc (.cells #[.int .i64 1, .int .i64 2] 3)).below hb2 (by go_size)
  clear hb2
  go_wp2_with fail
  refine (ProveConsistency_any [1, 2, 3] 2 _ 3 _ (Sl.fresh (C := intVals [1, 2, 3]) (by simp) rfl (Nat.le_refl _) (by simp [maxLen])) (by simp)).mono ?_
  rintro e w3 ⟨v3, rfl, own3, hb3⟩
  rw [A5.out]
  rw [A4.out] at own3
  obtain ⟨o3, k3, rfl⟩ := own_slice own3
  have sl3 := Sl.own own3
  clear own3
  have B3 : Below w.heap.size w w3 := bcall (by go_grown) hb3 (by go_size)
  have s3 := B3.size
  have q3 : w2.heap.size + 2 ≤ w3.heap.size := by have h := hb3.size; first | omega | (simp at h; omega)
  obtain ⟨ba0, ba1, baf, bag, bal⟩ := (((Box2.mk ba0 ba1 baf bag bal).alloc (.cells #[(.int .i64 0), (.int .i64 0)] 24)).alloc (.cells #[.int .i64 1, .int .i64 2, .int .i64 3] 3)).below hb3 (by go_size)
  obtain ⟨bb0, bb1, bbf, bbg, bbl⟩ := ((Box2.new w2 (.int .i64 0) (.int .i64 0) 24).alloc (.cells #[.int .i64 1, .int .i64 2, .int .i64 3] 3)).below hb3 (by go_size)
  replace sl2 := (sl2.below (by go_grown) (Nat.le_refl _)).below hb3 (Nat.le_refl _)
  clear hb3
  go_wp2_with fail
  refine (Verify_any 1000072 2 0 1 [2] _ 1 _ (Sl.fresh (C := intVals [2]) (by simp) rfl (Nat.le_refl _) (by simp [maxLen])) (by simp)).mono ?_
  rw [A6.out, A7.out]
  rintro e w4 ⟨rfl, hb4⟩
  have B4 : Below w.heap.size w w4 := bcall (by go_grown) hb4 (by go_size)
  have s4 := B4.size
  have q4 : w3.heap.size + 2 ≤ w4.heap.size := by have h := hb4.size; first | omega | (simp at h; omega)
  obtain ⟨ba0, ba1, baf, bag, bal⟩ := (((Box2.mk ba0 ba1 baf bag bal).alloc (.cells #[(.int .i64 0), (.int .i64 0)] 24)).alloc (.cells #[.int .i64 2] 3)).below hb4 (by go_size)
  obtain ⟨bb0, bb1, bbf, bbg, bbl⟩ := (((Box2.mk bb0 bb1 bbf bbg bbl).alloc (.cells #[(.int .i64 0), (.int .i64 0)] 24)).alloc (.cells #[.int .i64 2] 3)).below hb4 (by go_size)
  obtain ⟨bc0, bc1, bcf, bcg, bcl⟩ := ((Box2.new w3 (.int .i64 0) (.int .i64 0) 24).alloc (.cells #[.int .i64 2] 3)).below hb4 (by go_size)
  replace sl2 := (sl2.below (by go_grown) (Nat.le_refl _)).below hb4 (Nat.le_refl _)
  replace sl3 := (sl3.below (by go_grown) (Nat.le_refl _)).below hb4 (Nat.le_refl _)
  clear hb4
  go_wp2_with fail
  refine (Verify_any 1000072 2 0 3 [2] _ 1 _ (Sl.fresh (C := intVals [2]) (by simp) rfl (Nat.le_refl _) (by simp [maxLen])) (by simp)).mono ?_
  rw [A8.out, A9.out]
  rintro e w5 ⟨rfl, hb5⟩
  have B5 : Below w.heap.size w w5 := bcall (by go_grown) hb5 (by go_size)
  have s5 := B5.size
  have q5 : w4.heap.size + 2 ≤ w5.heap.size := by have h := hb5.size; first | omega | (simp at h; omega)
  obtain ⟨ba0, ba1, baf, bag, bal⟩ := (((Box2.mk ba0 ba1 baf bag bal).alloc (.cells #[(.int .i64 0), (.int .i64 0)] 24)).alloc (.cells #[.int .i64 2] 3)).below hb5 (by go_size)
  obtain ⟨bb0, bb1, bbf, bbg, bbl⟩ := (((Box2.mk bb0 bb1 bbf bbg bbl).alloc (.cells #[(.int .i64 0), (.int .i64 0)] 24)).alloc (.cells #[.int .i64 2] 3)).below hb5 (by go_size)
  obtain ⟨bc0, bc1, bcf, bcg, bcl⟩ := (((Box2.mk bc0 bc1 bcf bcg bcl).alloc (.cells #[(.int .i64 0), (.int .i64 0)] 24)).alloc (.cells #[.int .i64 2] 3)).below hb5 (by go_size)
  obtain ⟨bd0, bd1, bdf, bdg, bdl⟩ := ((Box2.new w4 (.int .i64 0) (.int .i64 0) 24).alloc (.cells #[.int .i64 2] 3)).below hb5 (by go_size)
  replace sl2 := (sl2.below (by go_grown) (Nat.le_refl _)).below hb5 (Nat.le_refl _)
  replace sl3 := (sl3.below (by go_grown) (Nat.le_refl _)).below hb5 (Nat.le_refl _)
  clear hb5
  go_wp2_with fail
  refine (rpair_any 1000072 3 _ (by decide) (by decide)).mono ?_
  rintro e w' ⟨rfl, rfl⟩
  go_wp2_with fail
  refine (VerifyConsistency_any 1000072 2 (Pl.pairS 1000072 3) 3 [3] _ 1 _ (Sl.fresh (C := intVals [3]) (by simp) rfl (Nat.le_refl _) (by simp [maxLen])) (by simp)).mono ?_
  rw [A10.out, A11.out]
  rintro e w6 ⟨rfl, hb6⟩
  have B6 : Below w.heap.size w w6 := bcall (by go_grown) hb6 (by go_size)
  have s6 := B6.size
  have q6 : w5.heap.size + 2 ≤ w6.heap.size := by have h := hb6.size; first | omega | (simp at h; omega)
  obtain ⟨ba0, ba1, baf, bag, bal⟩ := (((Box2.mk ba0 ba1 baf bag bal).alloc (.cells #[(.int .i64 0), (.int .i64 0)] 24)).alloc (.cells #[.int .i64 3] 3)).below hb6 (by go_size)
  obtain ⟨bb0, bb1, bbf, bbg, bbl⟩ := (((Box2.mk bb0 bb1 bbf bbg bbl).alloc (.cells #[(.int .i64 0), (.int .i64 0)] 24)).alloc (.cells #[.int .i64 3] 3)).below hb6 (by go_size)
  obtain ⟨bc0, bc1, bcf, bcg, bcl⟩ := (((Box2.mk bc0 bc1 bcf bcg bcl).alloc (.cells #[(.int .i64 0), (.int .i64 0)] 24)).alloc (.cells #[.int .i64 3] 3)).below hb6 (by go_size)
  obtain ⟨bd0, bd1, bdf, bdg, bdl⟩ := (((Box2.mk bd0 bd1 bdf bdg bdl).alloc (.cells #[(.int .i64 0), (.int .i64 0)] 24)).alloc (.cells #[.int .i64 3] 3)).below hb6 (by go_size)
  obtain ⟨be0, be1, bef, beg, bel⟩ := ((Box2.new w5 (.int .i64 0) (.int .i64 0) 24).alloc (.cells #[.int .i64 3] 3)).below hb6 (by go_size)
  replace sl2 := (sl2.below (by go_grown) (Nat.le_refl _)).below hb6 (Nat.le_refl _)
  replace sl3 := (sl3.below (by go_grown) (Nat.le_refl _)).below hb6 (Nat.le_refl _)
  clear hb6
  go_wp2_with fail
  have tt : (1000072 : Int) == 1000072 := rfl
  refine (Ints_any [2] [2] o2 _ k2 1 _ (sl2.below (by go_grown) (Nat.le_refl _)) (Sl.fresh (C := intVals [2]) (by simp) rfl (Nat.le_refl _) (by simp [maxLen])) (by simp) (by simp)).mono ?_
  rw [show decide (([2] : List Int) = [2]) = true from rfl]
  rintro e w7 ⟨rfl, hb7⟩
  have B7 : Below w.heap.size w w7 := bcall (by go_grown) hb7 (by go_size)
  have s7 := B7.size
  have q7 : w6.heap.size + 2 ≤ w7.heap.size := by have h := hb7.size; first | omega | (simp at h; omega)
  obtain ⟨ba0, ba1, baf, bag, bal⟩ := (((Box2.mk ba0 ba1 baf bag bal).alloc (.cells #[(.int .i64 0), (.int .i64 0)] 24)).alloc (.cells #[.int .i64 2] 3)).below hb7 (by go_size)
  obtain ⟨bb0, bb1, bbf, bbg, bbl⟩ := (((Box2.mk bb0 bb1 bbf bbg bbl).alloc (.cells #[(.int .i64 0), (.int .i64 0)] 24)).alloc (.cells #[.int .i64 2] 3)).below hb7 (by go_size)
  obtain ⟨bc0, bc1, bcf, bcg, bcl⟩ := (((Box2.mk bc0 bc1 bcf bcg bcl).alloc (.cells #[(.int .i64 0), (.int .i64 0)] 24)).alloc (.cells #[.int .i64 2] 3)).below hb7 (by go_size)
  obtain ⟨bd0, bd1, bdf, bdg, bdl⟩ := (((Box2.mk bd0 bd1 bdf bdg bdl).alloc (.cells #[(.int .i64 0), (.int .i64 0)] 24)).alloc (.cells #[.int .i64 2] 3)).below hb7 (by go_size)
  obtain ⟨be0, be1, bef, beg, bel⟩ := (((Box2.mk be0 be1 bef beg bel).alloc (.cells #[(.int .i64 0), (.int .i64 0)] 24)).alloc (.cells #[.int .i64 2] 3)).below hb7 (by go_size)
  obtain ⟨bf0, bf1, bff, bfg, bfl⟩ := ((Box2.new w6 (.int .i64 0) (.int .i64 0) 24).alloc (.cells #[.int .i64 2] 3)).below hb7 (by go_size)
  replace sl2 := (sl2.below (by go_grown) (Nat.le_refl _)).below hb7 (Nat.le_refl _)
  replace sl3 := (sl3.below (by go_grown) (Nat.le_refl _)).below hb7 (Nat.le_refl _)
  clear hb7
  go_wp2_with fail
  refine (Ints_any [3] [3] o3 _ k3 1 _ (sl3.below (by go_grown) (Nat.le_refl _)) (Sl.fresh (C := intVals [3]) (by simp) rfl (Nat.le_refl _) (by simp [maxLen])) (by simp) (by simp)).mono ?_
  rw [show decide (([3] : List Int) = [3]) = true from rfl]
  rintro e w8 ⟨rfl, hb8⟩
  have B8 : Below w.heap.size w w8 := bcall (by go_grown) hb8 (by go_size)
  have s8 := B8.size
  have q8 : w7.heap.size + 1 ≤ w8.heap.size := by have h := hb8.size; first | omega | (simp at h; omega)
  obtain ⟨ba0, ba1, baf, bag, bal⟩ := ((Box2.mk ba0 ba1 baf bag bal).alloc (.cells #[.int .i64 3] 3)).below hb8 (by go_size)
  obtain ⟨bb0, bb1, bbf, bbg, bbl⟩ := ((Box2.mk bb0 bb1 bbf bbg bbl).alloc (.cells #[.int .i64 3] 3)).below hb8 (by go_size)
  obtain ⟨bc0, bc1, bcf, bcg, bcl⟩ := ((Box2.mk bc0 bc1 bcf bcg bcl).alloc (.cells #[.int .i64 3] 3)).below hb8 (by go_size)
  obtain ⟨bd0, bd1, bdf, bdg, bdl⟩ := ((Box2.mk bd0 bd1 bdf bdg bdl).alloc (.cells #[.int .i64 3] 3)).below hb8 (by go_size)
  obtain ⟨be0, be1, bef, beg, bel⟩ := ((Box2.mk be0 be1 bef beg bel).alloc (.cells #[.int .i64 3] 3)).below hb8 (by go_size)
  obtain ⟨bf0, bf1, bff, bfg, bfl⟩ := ((Box2.mk bf0 bf1 bff bfg bfl).alloc (.cells #[.int .i64 3] 3)).below hb8 (by go_size)
  replace sl2 := (sl2.below (by go_grown) (Nat.le_refl _)).below hb8 (Nat.le_refl _)
  replace sl3 := (sl3.below (by go_grown) (Nat.le_refl _)).below hb8 (Nat.le_refl _)
  clear hb8
  go_wp2_with fail
  go_ret
  exact ⟨ret_true (by simp), by go_grown⟩
end Go.Proofs.Ytplcbhcbahiheaa
