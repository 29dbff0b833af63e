/- The laws RolesNeedTheirKeys and RolesDelegationIsFollowed return true. -/
import Derived.Test.YtplcbhcbahiheaaRf
namespace Go.Proofs.Ytplcbhcbahiheaa
open Go.RowKit

namespace Pl
theorem path_ok {rs : List Role} {p : ByteArray} (hF : pathF rs p = (0, 0)) : 1 ≤ rs.length ∧ rs.length ≤ 12 ∧ (∀ i, i < rs.length → roleC rs i = 0) := by
  rcases pathF_cases rs p with ⟨_, hR, _⟩ | h
  · rcases rolesF_cases rs with ⟨_, h1, h2, h3⟩ | h
    · exact ⟨h1, h2, h3⟩
    · rw [hR] at h; exact absurd rfl h
  · rw [hF] at h; exact absurd rfl h
theorem accF_thr {ks : List Int} {need : Int} (h : thrF ks need = (0, 0)) (n : Nat) (sg : List (Int × Int)) : accF ks need n sg = sigF ks n sg := by unfold accF; rw [h]; rfl
theorem accB_ok {ks : List Int} {need : Int} {l : List UInt8} {sg : List (Int × Int)} (h : (accF ks need l.length sg).1 = 0) : accB ks need l sg = decide (need ≤ ((signers ks l sg).length : Int)) := by unfold accB; simp [h]
theorem accB_bad {ks : List Int} {need : Int} {l : List UInt8} {sg : List (Int × Int)} (h : (accF ks need l.length sg).1 ≠ 0) : accB ks need l sg = false := by unfold accB; simp [h]
end Pl
theorem RolesNeedTheirKeys_bad (rs : List Pl.Role) (p : ByteArray) (l : List UInt8) (sg : List (Int × Int)) (oa ob oc : Option Addr) (cap cb cc : Nat) (w : World) (hr : RolesIn w oa cap rs) (hp : p.size ≤ 9223372036854775807)
    (hb : Sl w ob l.length cb 1 (byteVals l)) (hm2 : l.length ≤ 9223372036854775807) (hg : Sl w oc sg.length cc 2 (pairVals sg)) (hm3 : sg.length ≤ 9223372036854775807) (hF : (Pl.pathF rs p).1 ≠ 0) :
    Calls Try.prog 13 #[.slice oa rs.length cap, .string p, .slice ob l.length cb, .slice oc sg.length cc] w fun e w' => e = .returned (.bool true) ∧ Below w.heap.size w w' := by
  have HA := Lib.hid (show Pl.authF rs p l.length sg = Pl.pathF rs p by rw [Pl.authF, if_neg hF])
  have HB := Lib.hid (show Pl.authB rs p l sg = false by rw [Pl.authB, if_neg hF])
  have HO := Lib.hid (show Pl.ofRole rs p = 0 by rw [Pl.ofRole, if_neg hF])
  generalize hM : Pl.pathF rs p = G at *
  have HF := Lib.hid hM
  have u1 : (G.1 == 0) = false := by simp [hF]
  have u2 : (G.1 != 0) = true := by simp [hF]
  clear hM hF
  go_enter Try.func13, Try.ntmps13
  go_wp2_with fail
  refine (Authorized_any rs p l sg oa ob oc cap cb cc _ (hr.below (by go_grown) (Nat.le_refl _)) hp (hb.below (by go_grown) (Nat.le_refl _)) hm2 (hg.below (by go_grown) (Nat.le_refl _)) hm3).mono ?_
  rw [HA.out, HB.out]
  rintro e w1 ⟨rfl, hb1⟩
  have B1 : Below w.heap.size w w1 := bcall (by go_grown) hb1 (by go_size)
  have s1 := B1.size
  have q1 : w.heap.size ≤ w1.heap.size := by have h := hb1.size; first | omega | (simp at h; omega)
  clear hb1
  go_wp2_with fail
  refine (Of_any rs p oa cap _ (hr.below (by go_grown) (Nat.le_refl _)) hp).mono ?_
  rw [HO.out, HF.out]
  rintro e w2 ⟨rfl, hb2⟩
  have B2 : Below w.heap.size w w2 := bcall (by go_grown) hb2 (by go_size)
  have s2 := B2.size
  have q2 : w1.heap.size + 1 ≤ w2.heap.size := by have h := hb2.size; first | omega | (simp at h; omega)
  obtain ⟨ba0, ba1, baf, bag, bal⟩ := (Box2.new w1 (.int .i64 G.1) (.int .i64 G.2) 24).below hb2 (by go_size)
  clear hb2
  go_wp2_with fail
  refine (delegates_any _).mono ?_
  rintro e w3 ⟨rfl, hb3⟩
  have B3 : Below w.heap.size w w3 := bcall (by go_grown) hb3 (by go_size)
  have s3 := B3.size
  have q3 : w2.heap.size + 1 ≤ w3.heap.size := by have h := hb3.size; first | omega | (simp at h; omega)
  obtain ⟨ba0, ba1, baf, bag, bal⟩ := ((Box2.mk ba0 ba1 baf bag bal).alloc (.cells #[(.int .i64 G.1), (.int .i64 G.2)] 24)).below hb3 (by go_size)
  obtain ⟨bb0, bb1, bbf, bbg, bbl⟩ := (Box2.new w2 (.int .i64 G.1) (.int .i64 G.2) 24).below hb3 (by go_size)
  clear hb3
  go_wp2_with fail
  refine (delegates_any _).mono ?_
  rintro e w4 ⟨rfl, hb4⟩
  have B4 : Below w.heap.size w w4 := bcall (by go_grown) hb4 (by go_size)
  have s4 := B4.size
  have q4 : w3.heap.size ≤ w4.heap.size := by have h := hb4.size; first | omega | (simp at h; omega)
  obtain ⟨ba0, ba1, baf, bag, bal⟩ := (Box2.mk ba0 ba1 baf bag bal).below hb4 (by go_size)
  obtain ⟨bb0, bb1, bbf, bbg, bbl⟩ := (Box2.mk bb0 bb1 bbf bbg bbl).below hb4 (by go_size)
  clear hb4
  go_wp2_with fail
  go_ret
  exact ⟨ret_true (by simp), by go_grown⟩
theorem RolesNeedTheirKeys_acc (rs : List Pl.Role) (p : ByteArray) (l : List UInt8) (sg : List (Int × Int)) (oa ob oc : Option Addr) (cap cb cc : Nat) (w : World) (hr : RolesIn w oa cap rs) (hp : p.size ≤ 9223372036854775807)
    (hb : Sl w ob l.length cb 1 (byteVals l)) (hm2 : l.length ≤ 9223372036854775807) (hg : Sl w oc sg.length cc 2 (pairVals sg)) (hm3 : sg.length ≤ 9223372036854775807) (hF : Pl.pathF rs p = (0, 0)) (hA : (Pl.authF rs p l.length sg).1 ≠ 0) :
    Calls Try.prog 13 #[.slice oa rs.length cap, .string p, .slice ob l.length cb, .slice oc sg.length cc] w fun e w' => e = .returned (.bool true) ∧ Below w.heap.size w w' := by
  have HF := Lib.hid hF
  obtain ⟨hlen, h12, hv⟩ := Pl.path_ok hF
  obtain ⟨j, hj, hjl⟩ := Pl.ofRole_nat hlen hF
  have HAF := Lib.hid (show Pl.authF rs p l.length sg = Pl.accF (rs.getD j Pl.Role.zero).keys (rs.getD j Pl.Role.zero).need l.length sg by rw [Pl.authF, hF, hj]; rfl)
  have HAB := Lib.hid (show Pl.authB rs p l sg = Pl.accB (rs.getD j Pl.Role.zero).keys (rs.getD j Pl.Role.zero).need l sg by rw [Pl.authB, hF, hj]; rfl)
  have HT := Lib.hid (Pl.roleC_zero (hv j hjl)).2.2.2
  replace hj := Lib.hid hj
  clear hF hv
  obtain ⟨r, hrj⟩ : ∃ r, rs.getD j Pl.Role.zero = r := ⟨_, rfl⟩
  rw [hrj] at HAF HAB HT
  obtain ⟨b, off, rfl, hlt, hat⟩ := hr.at (by omega)
  obtain ⟨ka, kc, R⟩ := hat j hjl
  rw [hrj] at R
  clear hat hrj
  obtain ⟨pa, pr, ks, nd⟩ := r
  simp only at HAF HAB HT
  have n1 : (j : Int) < (rs.length : Int) := by omega
  have n2 : (0 : Int) ≤ (j : Int) := by omega
  have HB := Lib.hid (show Pl.authB rs p l sg = false by rw [HAB.out]; exact Pl.accB_bad (by rw [← HAF.out]; exact hA))
  clear HAF HAB R HT
  generalize hM : Pl.authF rs p l.length sg = G at *
  replace hM := Lib.hid hM
  have u1 : (G.1 == 0) = false := by simp [hA]
  have u2 : (G.1 != 0) = true := by simp [hA]
  clear hA
  go_enter Try.func13, Try.ntmps13
  go_wp2_with fail
  refine (Authorized_any rs p l sg _ ob oc cap cb cc _ (hr.below (by go_grown) (Nat.le_refl _)) hp (hb.below (by go_grown) (Nat.le_refl _)) hm2 (hg.below (by go_grown) (Nat.le_refl _)) hm3).mono ?_
  rw [hM.out, HB.out]
  rintro e w1 ⟨rfl, hb1⟩
  have B1 : Below w.heap.size w w1 := bcall (by go_grown) hb1 (by go_size)
  have s1 := B1.size
  have q1 : w.heap.size ≤ w1.heap.size := by have h := hb1.size; first | omega | (simp at h; omega)
  clear hb1
  go_wp2_with fail
  refine (Of_any rs p _ cap _ (hr.below (by go_grown) (Nat.le_refl _)) hp).mono ?_
  rw [hj.out, HF.out]
  rintro e w2 ⟨rfl, hb2⟩
  have B2 : Below w.heap.size w w2 := bcall (by go_grown) hb2 (by go_size)
  have s2 := B2.size
  have q2 : w1.heap.size + 1 ≤ w2.heap.size := by have h := hb2.size; first | omega | (simp at h; omega)
  obtain ⟨ba0, ba1, baf, bag, bal⟩ := (Box2.new w1 (.int .i64 G.1) (.int .i64 G.2) 24).below hb2 (by go_size)
  clear hb2
  go_wp2_with fail
  refine (delegates_any _).mono ?_
  rintro e w3 ⟨rfl, hb3⟩
  have B3 : Below w.heap.size w w3 := bcall (by go_grown) hb3 (by go_size)
  have s3 := B3.size
  have q3 : w2.heap.size + 1 ≤ w3.heap.size := by have h := hb3.size; first | omega | (simp at h; omega)
  obtain ⟨ba0, ba1, baf, bag, bal⟩ := ((Box2.mk ba0 ba1 baf bag bal).alloc (.cells #[(.int .i64 0), (.int .i64 0)] 24)).below hb3 (by go_size)
  obtain ⟨bb0, bb1, bbf, bbg, bbl⟩ := (Box2.new w2 (.int .i64 0) (.int .i64 0) 24).below hb3 (by go_size)
  clear hb3
  go_wp2_with fail
  refine (delegates_any _).mono ?_
  rintro e w4 ⟨rfl, hb4⟩
  have B4 : Below w.heap.size w w4 := bcall (by go_grown) hb4 (by go_size)
  have s4 := B4.size
  have q4 : w3.heap.size ≤ w4.heap.size := by have h := hb4.size; first | omega | (simp at h; omega)
  obtain ⟨ba0, ba1, baf, bag, bal⟩ := (Box2.mk ba0 ba1 baf bag bal).below hb4 (by go_size)
  obtain ⟨bb0, bb1, bbf, bbg, bbl⟩ := (Box2.mk bb0 bb1 bbf bbg bbl).below hb4 (by go_size)
  clear hb4
  go_wp2_with fail
  go_ret
  exact ⟨ret_true (by simp), by go_grown⟩
theorem RolesNeedTheirKeys_ok (rs : List Pl.Role) (p : ByteArray) (l : List UInt8) (sg : List (Int × Int)) (oa ob oc : Option Addr) (cap cb cc : Nat) (w : World) (hr : RolesIn w oa cap rs) (hp : p.size ≤ 9223372036854775807)
    (hb : Sl w ob l.length cb 1 (byteVals l)) (hm2 : l.length ≤ 9223372036854775807) (hg : Sl w oc sg.length cc 2 (pairVals sg)) (hm3 : sg.length ≤ 9223372036854775807) (hF : Pl.pathF rs p = (0, 0)) (hA : (Pl.authF rs p l.length sg).1 = 0) :
    Calls Try.prog 13 #[.slice oa rs.length cap, .string p, .slice ob l.length cb, .slice oc sg.length cc] w fun e w' => e = .returned (.bool true) ∧ Below w.heap.size w w' := by
  have HF := Lib.hid hF
  obtain ⟨hlen, h12, hv⟩ := Pl.path_ok hF
  obtain ⟨j, hj, hjl⟩ := Pl.ofRole_nat hlen hF
  have HAF := Lib.hid (show Pl.authF rs p l.length sg = Pl.accF (rs.getD j Pl.Role.zero).keys (rs.getD j Pl.Role.zero).need l.length sg by rw [Pl.authF, hF, hj]; rfl)
  have HAB := Lib.hid (show Pl.authB rs p l sg = Pl.accB (rs.getD j Pl.Role.zero).keys (rs.getD j Pl.Role.zero).need l sg by rw [Pl.authB, hF, hj]; rfl)
  have HT := Lib.hid (Pl.roleC_zero (hv j hjl)).2.2.2
  replace hj := Lib.hid hj
  clear hF hv
  obtain ⟨r, hrj⟩ : ∃ r, rs.getD j Pl.Role.zero = r := ⟨_, rfl⟩
  rw [hrj] at HAF HAB HT
  obtain ⟨b, off, rfl, hlt, hat⟩ := hr.at (by omega)
  obtain ⟨ka, kc, R⟩ := hat j hjl
  rw [hrj] at R
  clear hat hrj
  obtain ⟨pa, pr, ks, nd⟩ := r
  simp only at HAF HAB HT
  have n1 : (j : Int) < (rs.length : Int) := by omega
  have n2 : (0 : Int) ≤ (j : Int) := by omega
  rw [HAF.out] at hA
  have HB := Lib.hid (show Pl.authB rs p l sg = decide (nd ≤ ((Pl.signers ks l sg).length : Int)) by rw [HAB.out]; exact Pl.accB_ok hA)
  rw [Pl.accF_thr HT.out] at hA
  have hS : Pl.sigF ks l.length sg = (0, 0) := by
    rcases Pl.sigF_cases ks l.length sg with ⟨h, _⟩ | h
    · exact h
    · exact absurd hA h
  have HA := Lib.hid (show Pl.authF rs p l.length sg = (0, 0) by rw [HAF.out, Pl.accF_thr HT.out, hS])
  have HV := Lib.hid (show Pl.signersV ks l sg = Pl.signers ks l sg by rw [Pl.signersV, hS]; rfl)
  have HS := Lib.hid hS
  have hin := Pl.inB_true.2 (show 0 ≤ (j : Int) ∧ (j : Int) ≤ (rs.length : Int) - 1 by omega)
  clear hA hS HAF HAB HT
  go_enter Try.func13, Try.ntmps13
  go_wp2_with fail
  refine (Authorized_any rs p l sg _ ob oc cap cb cc _ (hr.below (by go_grown) (Nat.le_refl _)) hp (hb.below (by go_grown) (Nat.le_refl _)) hm2 (hg.below (by go_grown) (Nat.le_refl _)) hm3).mono ?_
  rw [HA.out, HB.out]
  rintro e w1 ⟨rfl, hb1⟩
  have B1 : Below w.heap.size w w1 := bcall (by go_grown) hb1 (by go_size)
  have s1 := B1.size
  have q1 : w.heap.size ≤ w1.heap.size := by have h := hb1.size; first | omega | (simp at h; omega)
  clear hb1
  go_wp2_with fail
  refine (Of_any rs p _ cap _ (hr.below (by go_grown) (Nat.le_refl _)) hp).mono ?_
  rw [hj.out, HF.out]
  rintro e w2 ⟨rfl, hb2⟩
  have B2 : Below w.heap.size w w2 := bcall (by go_grown) hb2 (by go_size)
  have s2 := B2.size
  have q2 : w1.heap.size + 1 ≤ w2.heap.size := by have h := hb2.size; first | omega | (simp at h; omega)
  obtain ⟨ba0, ba1, baf, bag, bal⟩ := (Box2.new w1 (.int .i64 0) (.int .i64 0) 24).below hb2 (by go_size)
  clear hb2
  go_wp2_with fail
  refine (delegates_any _).mono ?_
  rintro e w3 ⟨rfl, hb3⟩
  have B3 : Below w.heap.size w w3 := bcall (by go_grown) hb3 (by go_size)
  have s3 := B3.size
  have q3 : w2.heap.size + 1 ≤ w3.heap.size := by have h := hb3.size; first | omega | (simp at h; omega)
  obtain ⟨ba0, ba1, baf, bag, bal⟩ := ((Box2.mk ba0 ba1 baf bag bal).alloc (.cells #[(.int .i64 0), (.int .i64 0)] 24)).below hb3 (by go_size)
  obtain ⟨bb0, bb1, bbf, bbg, bbl⟩ := (Box2.new w2 (.int .i64 0) (.int .i64 0) 24).below hb3 (by go_size)
  clear hb3
  obtain ⟨d0, d1, d2, d3, hkS, hkl, hpl⟩ := R.below B3 (Nat.le_refl _)
  simp only at d0 d1 d2 d3 hkS hkl hpl
  go_wp2_with (go_at_call 18; refine (lin_any _ _ _ _).mono ?_; rintro e w' ⟨rfl, rfl⟩)
  clear d0 d1 d2 d3
  refine (Signers_any ks l sg ka ob oc kc cb cc _ hkS hkl (hb.below (by go_grown) (Nat.le_refl _)) hm2 (hg.below (by go_grown) (Nat.le_refl _)) hm3).mono ?_
  rintro e w4 ⟨o4, k4, rfl, own4, hb4⟩
  rw [HS.out]
  clear own4
  have B4 : Below w.heap.size w w4 := bcall (by go_grown) hb4 (by go_size)
  have s4 := B4.size
  have q4 : w3.heap.size ≤ w4.heap.size := by have h := hb4.size; first | omega | (simp at h; omega)
  obtain ⟨ba0, ba1, baf, bag, bal⟩ := (Box2.mk ba0 ba1 baf bag bal).below hb4 (by go_size)
  obtain ⟨bb0, bb1, bbf, bbg, bbl⟩ := (Box2.mk bb0 bb1 bbf bbg bbl).below hb4 (by go_size)
  clear hb4
  rw [HV.out] at *
  obtain ⟨d0, d1, d2, d3, -, -, -⟩ := R.below B4 (Nat.le_refl _)
  simp only at d0 d1 d2 d3
  have hlt4 : b < w4.heap.size := by omega
  clear hkS
  go_wp2_with fail
  go_ret
  exact ⟨ret_true (by simp), by go_grown⟩
theorem RolesNeedTheirKeys_main (rs : List Pl.Role) (p : ByteArray) (l : List UInt8) (sg : List (Int × Int)) (oa ob oc : Option Addr) (cap cb cc : Nat) (w : World) (hr : RolesIn w oa cap rs) (hp : p.size ≤ 9223372036854775807)
    (hb : Sl w ob l.length cb 1 (byteVals l)) (hm2 : l.length ≤ 9223372036854775807) (hg : Sl w oc sg.length cc 2 (pairVals sg)) (hm3 : sg.length ≤ 9223372036854775807) :
    Calls Try.prog 13 #[.slice oa rs.length cap, .string p, .slice ob l.length cb, .slice oc sg.length cc] w fun e w' => e = .returned (.bool true) ∧ Below w.heap.size w w' := by
  rcases Pl.pathF_cases rs p with ⟨hF, -⟩ | hF
  · by_cases hA : (Pl.authF rs p l.length sg).1 = 0
    · exact RolesNeedTheirKeys_ok rs p l sg oa ob oc cap cb cc w hr hp hb hm2 hg hm3 hF hA
    · exact RolesNeedTheirKeys_acc rs p l sg oa ob oc cap cb cc w hr hp hb hm2 hg hm3 hF hA
  · exact RolesNeedTheirKeys_bad rs p l sg oa ob oc cap cb cc w hr hp hb hm2 hg hm3 hF
end Go.Proofs.Ytplcbhcbahiheaa
