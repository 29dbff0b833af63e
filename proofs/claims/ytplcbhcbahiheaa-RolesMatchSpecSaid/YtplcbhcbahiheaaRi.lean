/- The law RolesMatchSpec returns true. -/
import Derived.Test.YtplcbhcbahiheaaRg
namespace Go.Proofs.Ytplcbhcbahiheaa
open Go.RowKit

theorem Ints_same (xs : List Int) (n : Nat) (hn : xs.length = n) (oa ob : Option Addr) (ca cb : Nat) (w : World) (h1 : Sl w oa n ca 1 (intVals xs)) (h2 : Sl w ob n cb 1 (intVals xs)) (hm : n ≤ 9223372036854775807) :
    Calls Try.prog 21 #[.slice oa n ca, .slice ob n cb] w fun e w' => e = .returned (.bool true) ∧ Below w.heap.size w w' := by
  subst hn
  have := Ints_any xs xs oa ob ca cb w h1 h2 hm hm
  rwa [show decide (xs = xs) = true from decide_eq_true rfl] at this
theorem RoleChain_root (rs : List Pl.Role) (p : ByteArray) (hp : p.size ≤ 9223372036854775807) (h12 : rs.length ≤ 12) (oa : Option Addr) (cap : Nat) (w : World) (h1 : 1 ≤ rs.length) (hr : RolesIn w oa cap rs) :
    Calls Try.prog 38 #[.slice oa rs.length cap, .string p, .int .i64 0] w (RInts 3 (Pl.chain rs p) w) :=
  RoleChain_any rs p hp h12 (rs.length - 0) 0 oa cap w rfl (by omega) hr
theorem Pl.chain_le (rs : List Pl.Role) (p : ByteArray) (h1 : 1 ≤ rs.length) : (Pl.chain rs p).length ≤ rs.length := by
  have := Pl.scan_len rs p (rs.length - 1) 1 0
  unfold Pl.chain
  rw [List.length_cons]
  omega
theorem RolesMatchSpec_bad (rs : List Pl.Role) (p : ByteArray) (l : List UInt8) (sg : List (Int × Int)) (oa ob oc : Option Addr) (cap cb cc : Nat) (w : World) (hr : RolesIn w oa cap rs) (hp : p.size ≤ 9223372036854775807)
    (hb : Sl w ob l.length cb 1 (byteVals l)) (hm2 : l.length ≤ 9223372036854775807) (hg : Sl w oc sg.length cc 2 (pairVals sg)) (hm3 : sg.length ≤ 9223372036854775807) (hF : (Pl.pathF rs p).1 ≠ 0) :
    Calls Try.prog 9 #[.slice oa rs.length cap, .string p, .slice ob l.length cb, .slice oc sg.length cc] w fun e w' => e = .returned (.bool true) ∧ Below w.heap.size w w' := by
  have HA := Lib.hid (show Pl.authF rs p l.length sg = Pl.pathF rs p by rw [Pl.authF, if_neg hF])
  have HB := Lib.hid (show Pl.authB rs p l sg = false by rw [Pl.authB, if_neg hF])
  have HO := Lib.hid (show Pl.ofRole rs p = 0 by rw [Pl.ofRole, if_neg hF])
  have HC := Lib.hid (show Pl.chainV rs p = [] by rw [Pl.chainV, if_neg hF])
  generalize hM : Pl.pathF rs p = G at *
  have HF := Lib.hid hM
  have u1 : (G.1 == 0) = false := by simp [hF]
  have u2 : (G.1 != 0) = true := by simp [hF]
  clear hM hF
  obtain ⟨Q, hQ⟩ : ∃ Q, Pl.rolesF rs = Q := ⟨_, rfl⟩
  replace hQ := Lib.hid hQ
  go_enter Try.func9, Try.ntmps9
  go_wp2_with fail
  refine (delegates_any _).mono ?_
  rintro e w1 ⟨rfl, hb1⟩
  have B1 : Below w.heap.size w w1 := bcall (by go_grown) hb1 (by go_size)
  have s1 := B1.size
  have q1 : w.heap.size ≤ w1.heap.size := by have h := hb1.size; first | omega | (simp at h; omega)
  clear hb1
  go_wp2_with fail
  refine (rolesValidate_any rs oa cap _ (hr.below (by go_grown) (Nat.le_refl _))).mono ?_
  rw [hQ.out]
  rintro e w2 ⟨rfl, hb2⟩
  have B2 : Below w.heap.size w w2 := bcall (by go_grown) hb2 (by go_size)
  have s2 := B2.size
  have q2 : w1.heap.size ≤ w2.heap.size := by have h := hb2.size; first | omega | (simp at h; omega)
  clear hb2
  go_wp2_with fail
  refine (RolesFault_any rs oa cap _ (hr.below (by go_grown) (Nat.le_refl _))).mono ?_
  rw [hQ.out]
  rintro e w3 ⟨rfl, hb3⟩
  have B3 : Below w.heap.size w w3 := bcall (by go_grown) hb3 (by go_size)
  have s3 := B3.size
  have q3 : w2.heap.size ≤ w3.heap.size := by have h := hb3.size; first | omega | (simp at h; omega)
  clear hb3
  go_wp2_with fail
  refine (PathFault_any rs p oa cap _ (hr.below (by go_grown) (Nat.le_refl _)) hp).mono ?_
  rw [HF.out]
  rintro e w4 ⟨rfl, hb4⟩
  have B4 : Below w.heap.size w w4 := bcall (by go_grown) hb4 (by go_size)
  have s4 := B4.size
  have q4 : w3.heap.size ≤ w4.heap.size := by have h := hb4.size; first | omega | (simp at h; omega)
  clear hb4
  go_wp2_with fail
  refine (Chain_any rs p oa cap _ (hr.below (by go_grown) (Nat.le_refl _)) hp).mono ?_
  rintro e w5 ⟨o5, k5, rfl, own5, hb5⟩
  rw [HC.out, HF.out]
  clear own5
  have B5 : Below w.heap.size w w5 := bcall (by go_grown) hb5 (by go_size)
  have s5 := B5.size
  have q5 : w4.heap.size + 1 ≤ w5.heap.size := by have h := hb5.size; first | omega | (simp at h; omega)
  obtain ⟨ba0, ba1, baf, bag, bal⟩ := (Box2.new w4 (.int .i64 G.1) (.int .i64 G.2) 24).below hb5 (by go_size)
  clear hb5
  go_wp2_with fail
  refine (Of_any rs p oa cap _ (hr.below (by go_grown) (Nat.le_refl _)) hp).mono ?_
  rw [HO.out, HF.out]
  rintro e w6 ⟨rfl, hb6⟩
  have B6 : Below w.heap.size w w6 := bcall (by go_grown) hb6 (by go_size)
  have s6 := B6.size
  have q6 : w5.heap.size + 1 ≤ w6.heap.size := by have h := hb6.size; first | omega | (simp at h; omega)
  obtain ⟨ba0, ba1, baf, bag, bal⟩ := ((Box2.mk ba0 ba1 baf bag bal).alloc (.cells #[(.int .i64 G.1), (.int .i64 G.2)] 24)).below hb6 (by go_size)
  obtain ⟨bb0, bb1, bbf, bbg, bbl⟩ := (Box2.new w5 (.int .i64 G.1) (.int .i64 G.2) 24).below hb6 (by go_size)
  clear hb6
  go_wp2_with fail
  refine (Authorized_any rs p l sg oa ob oc cap cb cc _ (hr.below (by go_grown) (Nat.le_refl _)) hp (hb.below (by go_grown) (Nat.le_refl _)) hm2 (hg.below (by go_grown) (Nat.le_refl _)) hm3).mono ?_
  rw [HA.out, HB.out]
  rintro e w7 ⟨rfl, hb7⟩
  have B7 : Below w.heap.size w w7 := bcall (by go_grown) hb7 (by go_size)
  have s7 := B7.size
  have q7 : w6.heap.size + 1 ≤ w7.heap.size := by have h := hb7.size; first | omega | (simp at h; omega)
  obtain ⟨ba0, ba1, baf, bag, bal⟩ := ((Box2.mk ba0 ba1 baf bag bal).alloc (.cells #[(.int .i64 G.1), (.int .i64 G.2)] 24)).below hb7 (by go_size)
  obtain ⟨bb0, bb1, bbf, bbg, bbl⟩ := ((Box2.mk bb0 bb1 bbf bbg bbl).alloc (.cells #[(.int .i64 G.1), (.int .i64 G.2)] 24)).below hb7 (by go_size)
  obtain ⟨bc0, bc1, bcf, bcg, bcl⟩ := (Box2.new w6 (.int .i64 G.1) (.int .i64 G.2) 24).below hb7 (by go_size)
  clear hb7
  go_wp2_with fail
  go_ret
  exact ⟨ret_true (by simp), by go_grown⟩
theorem RolesMatchSpec_sig (rs : List Pl.Role) (p : ByteArray) (l : List UInt8) (sg : List (Int × Int)) (oa ob oc : Option Addr) (cap cb cc : Nat) (w : World) (hr : RolesIn w oa cap rs) (hp : p.size ≤ 9223372036854775807)
    (hb : Sl w ob l.length cb 1 (byteVals l)) (hm2 : l.length ≤ 9223372036854775807) (hg : Sl w oc sg.length cc 2 (pairVals sg)) (hm3 : sg.length ≤ 9223372036854775807) (hF : Pl.pathF rs p = (0, 0)) (hA : (Pl.authF rs p l.length sg).1 ≠ 0) :
    Calls Try.prog 9 #[.slice oa rs.length cap, .string p, .slice ob l.length cb, .slice oc sg.length cc] w fun e w' => e = .returned (.bool true) ∧ Below w.heap.size w w' := by
  have HF := Lib.hid hF
  obtain ⟨hlen, h12, hv⟩ := Pl.path_ok hF
  obtain ⟨j, hj, hjl⟩ := Pl.ofRole_nat hlen hF
  have HAF := Lib.hid (show Pl.authF rs p l.length sg = Pl.accF (rs.getD j Pl.Role.zero).keys (rs.getD j Pl.Role.zero).need l.length sg by rw [Pl.authF, hF, hj]; rfl)
  have HAB := Lib.hid (show Pl.authB rs p l sg = Pl.accB (rs.getD j Pl.Role.zero).keys (rs.getD j Pl.Role.zero).need l sg by rw [Pl.authB, hF, hj]; rfl)
  have HT := Lib.hid (Pl.roleC_zero (hv j hjl)).2.2.2
  have HC := Lib.hid (show Pl.chainV rs p = Pl.chain rs p by rw [Pl.chainV, hF]; rfl)
  have HO := Lib.hid (show (Pl.chain rs p).getD ((Pl.chain rs p).length - 1) 0 = (j : Int) by rw [← hj, Pl.ofRole, hF]; rfl)
  have hcl1 := Pl.chain_len rs p
  have hcl2 := Pl.chain_le rs p hlen
  replace hj := Lib.hid hj
  clear hF hv
  obtain ⟨Q, hQ⟩ : ∃ Q, Pl.rolesF rs = Q := ⟨_, rfl⟩
  replace hQ := Lib.hid hQ
  obtain ⟨r, hrj⟩ : ∃ r, rs.getD j Pl.Role.zero = r := ⟨_, rfl⟩
  rw [hrj] at HAF HAB HT
  obtain ⟨b, off, rfl, hlt, hat⟩ := hr.at (by omega)
  obtain ⟨ka, kc, R⟩ := hat j hjl
  rw [hrj] at R
  clear hat hrj
  obtain ⟨pa, pr, ks, nd⟩ := r
  simp only at HAF HAB HT
  have n1 : (j : Int) < (rs.length : Int) := by omega
  have n2 : (0 : Int) ≤ (j : Int) := by omega
  have HAF2 := Lib.hid (show Pl.authF rs p l.length sg = Pl.sigF ks l.length sg by rw [HAF.out, Pl.accF_thr HT.out])
  have HB := Lib.hid (show Pl.authB rs p l sg = false by rw [HAB.out]; exact Pl.accB_bad (by rw [← HAF.out]; exact hA))
  clear HAF HAB HT
  generalize hM : Pl.authF rs p l.length sg = G at *
  have HA := Lib.hid hM
  have HS := Lib.hid HAF2.out.symm
  have u1 : (G.1 == 0) = false := by simp [hA]
  have u2 : (G.1 != 0) = true := by simp [hA]
  clear hA hM HAF2
  go_enter Try.func9, Try.ntmps9
  go_wp2_with fail
  refine (delegates_any _).mono ?_
  rintro e w1 ⟨rfl, hb1⟩
  have B1 : Below w.heap.size w w1 := bcall (by go_grown) hb1 (by go_size)
  have s1 := B1.size
  have q1 : w.heap.size ≤ w1.heap.size := by have h := hb1.size; first | omega | (simp at h; omega)
  clear hb1
  go_wp2_with fail
  refine (rolesValidate_any rs _ cap _ (hr.below (by go_grown) (Nat.le_refl _))).mono ?_
  rw [hQ.out]
  rintro e w2 ⟨rfl, hb2⟩
  have B2 : Below w.heap.size w w2 := bcall (by go_grown) hb2 (by go_size)
  have s2 := B2.size
  have q2 : w1.heap.size ≤ w2.heap.size := by have h := hb2.size; first | omega | (simp at h; omega)
  clear hb2
  go_wp2_with fail
  refine (RolesFault_any rs _ cap _ (hr.below (by go_grown) (Nat.le_refl _))).mono ?_
  rw [hQ.out]
  rintro e w3 ⟨rfl, hb3⟩
  have B3 : Below w.heap.size w w3 := bcall (by go_grown) hb3 (by go_size)
  have s3 := B3.size
  have q3 : w2.heap.size ≤ w3.heap.size := by have h := hb3.size; first | omega | (simp at h; omega)
  clear hb3
  go_wp2_with fail
  refine (PathFault_any rs p _ cap _ (hr.below (by go_grown) (Nat.le_refl _)) hp).mono ?_
  rw [HF.out]
  rintro e w4 ⟨rfl, hb4⟩
  have B4 : Below w.heap.size w w4 := bcall (by go_grown) hb4 (by go_size)
  have s4 := B4.size
  have q4 : w3.heap.size ≤ w4.heap.size := by have h := hb4.size; first | omega | (simp at h; omega)
  clear hb4
  go_wp2_with fail
  refine (Chain_any rs p _ cap _ (hr.below (by go_grown) (Nat.le_refl _)) hp).mono ?_
  rintro e w5 ⟨o5, k5, rfl, own5, hb5⟩
  rw [HC.out] at *
  rw [HF.out]
  have sl5 := Sl.own own5
  clear own5
  have B5 : Below w.heap.size w w5 := bcall (by go_grown) hb5 (by go_size)
  have s5 := B5.size
  have q5 : w4.heap.size + 1 ≤ w5.heap.size := by have h := hb5.size; first | omega | (simp at h; omega)
  obtain ⟨ba0, ba1, baf, bag, bal⟩ := (Box2.new w4 (.int .i64 0) (.int .i64 0) 24).below hb5 (by go_size)
  clear hb5
  go_wp2_with fail
  refine (Of_any rs p _ cap _ (hr.below (by go_grown) (Nat.le_refl _)) hp).mono ?_
  rw [hj.out, HF.out]
  rintro e w6 ⟨rfl, hb6⟩
  have B6 : Below w.heap.size w w6 := bcall (by go_grown) hb6 (by go_size)
  have s6 := B6.size
  have q6 : w5.heap.size + 1 ≤ w6.heap.size := by have h := hb6.size; first | omega | (simp at h; omega)
  obtain ⟨ba0, ba1, baf, bag, bal⟩ := ((Box2.mk ba0 ba1 baf bag bal).alloc (.cells #[(.int .i64 0), (.int .i64 0)] 24)).below hb6 (by go_size)
  obtain ⟨bb0, bb1, bbf, bbg, bbl⟩ := (Box2.new w5 (.int .i64 0) (.int .i64 0) 24).below hb6 (by go_size)
  replace sl5 := (sl5.below (by go_grown) (Nat.le_refl _)).below hb6 (Nat.le_refl _)
  clear hb6
  go_wp2_with fail
  refine (Authorized_any rs p l sg _ ob oc cap cb cc _ (hr.below (by go_grown) (Nat.le_refl _)) hp (hb.below (by go_grown) (Nat.le_refl _)) hm2 (hg.below (by go_grown) (Nat.le_refl _)) hm3).mono ?_
  rw [HA.out, HB.out]
  rintro e w7 ⟨rfl, hb7⟩
  have B7 : Below w.heap.size w w7 := bcall (by go_grown) hb7 (by go_size)
  have s7 := B7.size
  have q7 : w6.heap.size + 1 ≤ w7.heap.size := by have h := hb7.size; first | omega | (simp at h; omega)
  obtain ⟨ba0, ba1, baf, bag, bal⟩ := ((Box2.mk ba0 ba1 baf bag bal).alloc (.cells #[(.int .i64 0), (.int .i64 0)] 24)).below hb7 (by go_size)
  obtain ⟨bb0, bb1, bbf, bbg, bbl⟩ := ((Box2.mk bb0 bb1 bbf bbg bbl).alloc (.cells #[(.int .i64 0), (.int .i64 0)] 24)).below hb7 (by go_size)
  obtain ⟨bc0, bc1, bcf, bcg, bcl⟩ := (Box2.new w6 (.int .i64 0) (.int .i64 0) 24).below hb7 (by go_size)
  replace sl5 := (sl5.below (by go_grown) (Nat.le_refl _)).below hb7 (Nat.le_refl _)
  clear hb7
  go_wp2_with fail
  refine (RoleChain_root rs p hp h12 _ cap _ hlen (hr.below (by go_grown) (Nat.le_refl _))).mono ?_
  rintro e w8 ⟨o8, k8, rfl, own8, hb8⟩
  have sl8 := Sl.own own8
  clear own8
  have B8 : Below w.heap.size w w8 := bcall (by go_grown) hb8 (by go_size)
  have s8 := B8.size
  have q8 : w7.heap.size + 1 ≤ w8.heap.size := by have h := hb8.size; first | omega | (simp at h; omega)
  obtain ⟨ba0, ba1, baf, bag, bal⟩ := ((Box2.mk ba0 ba1 baf bag bal).alloc (.cells #[(.int .i64 G.1), (.int .i64 G.2)] 24)).below hb8 (by go_size)
  obtain ⟨bb0, bb1, bbf, bbg, bbl⟩ := ((Box2.mk bb0 bb1 bbf bbg bbl).alloc (.cells #[(.int .i64 G.1), (.int .i64 G.2)] 24)).below hb8 (by go_size)
  obtain ⟨bc0, bc1, bcf, bcg, bcl⟩ := ((Box2.mk bc0 bc1 bcf bcg bcl).alloc (.cells #[(.int .i64 G.1), (.int .i64 G.2)] 24)).below hb8 (by go_size)
  obtain ⟨bd0, bd1, bdf, bdg, bdl⟩ := (Box2.new w7 (.int .i64 G.1) (.int .i64 G.2) 24).below hb8 (by go_size)
  replace sl5 := (sl5.below (by go_grown) (Nat.le_refl _)).below hb8 (Nat.le_refl _)
  clear hb8
  rcases sl8.mem with hz | ⟨g8, f8, rfl, hgl, hgc⟩
  · exfalso
    have hz : Pl.chain rs p = [] := by simpa [intVals] using hz
    rw [hz] at hcl1
    simp at hcl1
  have hcl : w8.cell? ⟨g8, f8 + ((Pl.chain rs p).length - 1), none⟩ = some (.int .i64 (j : Int)) := by
    have h := hgc ((Pl.chain rs p).length - 1) _ (intVals_get (Pl.chain rs p) ((Pl.chain rs p).length - 1) (by omega))
    rw [h, ← HO.out, List.getD_eq_getElem?_getD, List.getElem?_eq_getElem (by omega)]
    rfl
  clear hgc
  have hcb := sl8.hcap
  have hcm := sl8.hmax
  unfold maxLen at hcm
  obtain ⟨n, hn⟩ : ∃ n, (Pl.chain rs p).length = n := ⟨_, rfl⟩
  rw [hn] at hcl1 hcl2 hcl hcb sl5 sl8
  rw [hn]
  have ei : ((n : Int) - 1).toNat = n - 1 := by omega
  have e2 : IntKind.i64.wrap ((n : Int) - 1) = (n : Int) - 1 := IntWalk.i64_in _ (by omega)
  have e3 : (0 : Int) ≤ (n : Int) - 1 := by omega
  have e3' : (1 : Int) ≤ (n : Int) := by omega
  have e4 : (n : Int) - 1 < (n : Int) := by omega
  obtain ⟨d0, d1, d2, d3, hkS, hkl, hpl⟩ := R.below B8 (Nat.le_refl _)
  simp only at d0 d1 d2 d3 hkS hkl hpl
  replace hn := Lib.hid hn
  go_wp2_with fail
  refine (SignersFault_any ks l.length sg ka ob oc kc cb cc _ hkS hkl hm2 (hg.below (by go_grown) (Nat.le_refl _)) hm3).mono ?_
  rw [HS.out]
  rintro e w9 ⟨rfl, hb9⟩
  have B9 : Below w.heap.size w w9 := bcall (by go_grown) hb9 (by go_size)
  have s9 := B9.size
  have q9 : w8.heap.size ≤ w9.heap.size := by have h := hb9.size; first | omega | (simp at h; omega)
  obtain ⟨ba0, ba1, baf, bag, bal⟩ := (Box2.mk ba0 ba1 baf bag bal).below hb9 (by go_size)
  obtain ⟨bb0, bb1, bbf, bbg, bbl⟩ := (Box2.mk bb0 bb1 bbf bbg bbl).below hb9 (by go_size)
  obtain ⟨bc0, bc1, bcf, bcg, bcl⟩ := (Box2.mk bc0 bc1 bcf bcg bcl).below hb9 (by go_size)
  obtain ⟨bd0, bd1, bdf, bdg, bdl⟩ := (Box2.mk bd0 bd1 bdf bdg bdl).below hb9 (by go_size)
  replace sl5 := sl5.below hb9 (Nat.le_refl _)
  replace sl8 := sl8.below hb9 (Nat.le_refl _)
  clear hb9
  obtain ⟨d0, d1, d2, d3, hkS, -, -⟩ := R.below B9 (Nat.le_refl _)
  simp only at d0 d1 d2 d3 hkS
  have hlt9 : b < w9.heap.size := by omega
  clear hcl ei e2 e3 e4
  go_wp2_with fail
  go_quiet (fail)
  go_wp2_with fail
  obtain ⟨w10, hw10⟩ : ∃ x, (w9.alloc (.cells #[.int .i64 G.1, .int .i64 G.2] 24)).drewN nq = x := ⟨_, rfl⟩
  have D10 : Below w9.heap.size w9 w10 := by rw [← hw10]; exact below_drewN ((Below.refl _ _).alloc (Nat.le_refl _) _) _
  have E10 : Box2 w10 w9.heap.size (.int .i64 G.1) (.int .i64 G.2) := by rw [← hw10]; exact (Box2.new _ _ _ _).drewN _
  rw [hw10]
  clear hw10
  have B10 := bcall B9 D10 s9
  have s10 := B10.size
  have q10 := E10.lt
  obtain ⟨be0, be1, bef, beg, bel⟩ := E10
  obtain ⟨ba0, ba1, baf, bag, bal⟩ := (Box2.mk ba0 ba1 baf bag bal).below D10 (by omega)
  obtain ⟨bb0, bb1, bbf, bbg, bbl⟩ := (Box2.mk bb0 bb1 bbf bbg bbl).below D10 (by omega)
  obtain ⟨bc0, bc1, bcf, bcg, bcl⟩ := (Box2.mk bc0 bc1 bcf bcg bcl).below D10 (by omega)
  obtain ⟨bd0, bd1, bdf, bdg, bdl⟩ := (Box2.mk bd0 bd1 bdf bdg bdl).below D10 (by omega)
  replace sl5 := sl5.below D10 (Nat.le_refl _)
  replace sl8 := sl8.below D10 (Nat.le_refl _)
  clear D10
  refine (Ints_same (Pl.chain rs p) n hn.out o5 (some ⟨g8, f8, none⟩) k5 k8 _ sl5 sl8 (by omega)).mono ?_
  rintro e w11 ⟨rfl, hb11⟩
  have B11 : Below w.heap.size w w11 := bcall (by go_grown) hb11 (by go_size)
  have s11 := B11.size
  have q11 : w10.heap.size ≤ w11.heap.size := by have h := hb11.size; first | omega | (simp at h; omega)
  obtain ⟨ba0, ba1, baf, bag, bal⟩ := (Box2.mk ba0 ba1 baf bag bal).below hb11 (by go_size)
  obtain ⟨bb0, bb1, bbf, bbg, bbl⟩ := (Box2.mk bb0 bb1 bbf bbg bbl).below hb11 (by go_size)
  obtain ⟨bc0, bc1, bcf, bcg, bcl⟩ := (Box2.mk bc0 bc1 bcf bcg bcl).below hb11 (by go_size)
  obtain ⟨bd0, bd1, bdf, bdg, bdl⟩ := (Box2.mk bd0 bd1 bdf bdg bdl).below hb11 (by go_size)
  obtain ⟨be0, be1, bef, beg, bel⟩ := (Box2.mk be0 be1 bef beg bel).below hb11 (by go_size)
  clear hb11
  go_wp2_with fail
  go_ret
  exact ⟨ret_true (by simp), by go_grown⟩
set_option maxRecDepth 100000 in
set_option maxHeartbeats 1000000 in
theorem RolesMatchSpec_ok (rs : List Pl.Role) (p : ByteArray) (l : List UInt8) (sg : List (Int × Int)) (oa ob oc : Option Addr) (cap cb cc : Nat) (w : World) (hr : RolesIn w oa cap rs) (hp : p.size ≤ 9223372036854775807)
    (hb : Sl w ob l.length cb 1 (byteVals l)) (hm2 : l.length ≤ 9223372036854775807) (hg : Sl w oc sg.length cc 2 (pairVals sg)) (hm3 : sg.length ≤ 9223372036854775807) (hF : Pl.pathF rs p = (0, 0)) (hA : (Pl.authF rs p l.length sg).1 = 0) :
    Calls Try.prog 9 #[.slice oa rs.length cap, .string p, .slice ob l.length cb, .slice oc sg.length cc] w fun e w' => e = .returned (.bool true) ∧ Below w.heap.size w w' := by
  have HF := Lib.hid hF
  obtain ⟨hlen, h12, hv⟩ := Pl.path_ok hF
  obtain ⟨j, hj, hjl⟩ := Pl.ofRole_nat hlen hF
  have HAF := Lib.hid (show Pl.authF rs p l.length sg = Pl.accF (rs.getD j Pl.Role.zero).keys (rs.getD j Pl.Role.zero).need l.length sg by rw [Pl.authF, hF, hj]; rfl)
  have HAB := Lib.hid (show Pl.authB rs p l sg = Pl.accB (rs.getD j Pl.Role.zero).keys (rs.getD j Pl.Role.zero).need l sg by rw [Pl.authB, hF, hj]; rfl)
  have HT := Lib.hid (Pl.roleC_zero (hv j hjl)).2.2.2
  have HC := Lib.hid (show Pl.chainV rs p = Pl.chain rs p by rw [Pl.chainV, hF]; rfl)
  have HO := Lib.hid (show (Pl.chain rs p).getD ((Pl.chain rs p).length - 1) 0 = (j : Int) by rw [← hj, Pl.ofRole, hF]; rfl)
  have hcl1 := Pl.chain_len rs p
  have hcl2 := Pl.chain_le rs p hlen
  replace hj := Lib.hid hj
  clear hF hv
  obtain ⟨Q, hQ⟩ : ∃ Q, Pl.rolesF rs = Q := ⟨_, rfl⟩
  replace hQ := Lib.hid hQ
  obtain ⟨r, hrj⟩ : ∃ r, rs.getD j Pl.Role.zero = r := ⟨_, rfl⟩
  rw [hrj] at HAF HAB HT
  obtain ⟨b, off, rfl, hlt, hat⟩ := hr.at (by omega)
  obtain ⟨ka, kc, R⟩ := hat j hjl
  rw [hrj] at R
  clear hat hrj
  obtain ⟨pa, pr, ks, nd⟩ := r
  simp only at HAF HAB HT
  have n1 : (j : Int) < (rs.length : Int) := by omega
  have n2 : (0 : Int) ≤ (j : Int) := by omega
  have HAF2 := Lib.hid (show Pl.authF rs p l.length sg = Pl.sigF ks l.length sg by rw [HAF.out, Pl.accF_thr HT.out])
  have HB := Lib.hid (show Pl.authB rs p l sg = decide (nd ≤ ((Pl.signers ks l sg).length : Int)) by rw [HAB.out]; exact Pl.accB_ok (by rw [← HAF.out]; exact hA))
  rw [HAF2.out] at hA
  obtain ⟨hS, hK, hn4, hs24⟩ : Pl.sigF ks l.length sg = (0, 0) ∧ Pl.Keys ks ∧ l.length ≤ 4096 ∧ sg.length ≤ 24 := by
    rcases Pl.sigF_cases ks l.length sg with ⟨h, _, h1, h2, h3, _⟩ | h
    · exact ⟨h, h1, h2, h3⟩
    · exact absurd hA h
  have HA := Lib.hid (show Pl.authF rs p l.length sg = (0, 0) by rw [HAF2.out, hS])
  have HS := Lib.hid hS
  replace hK := Lib.hid hK
  clear hA hS HAF HAF2 HAB HT
  obtain ⟨BB, hBB⟩ : ∃ x, decide (nd ≤ ((Pl.signers ks l sg).length : Int)) = x := ⟨_, rfl⟩
  rw [hBB] at HB
  replace hBB := Lib.hid hBB
  go_enter Try.func9, Try.ntmps9
  go_wp2_with fail
  refine (delegates_any _).mono ?_
  rintro e w1 ⟨rfl, hb1⟩
  have B1 : Below w.heap.size w w1 := bcall (by go_grown) hb1 (by go_size)
  have s1 := B1.size
  have q1 : w.heap.size ≤ w1.heap.size := by have h := hb1.size; first | omega | (simp at h; omega)
  clear hb1
  go_wp2_with fail
  refine (rolesValidate_any rs _ cap _ (hr.below (by go_grown) (Nat.le_refl _))).mono ?_
  rw [hQ.out]
  rintro e w2 ⟨rfl, hb2⟩
  have B2 : Below w.heap.size w w2 := bcall (by go_grown) hb2 (by go_size)
  have s2 := B2.size
  have q2 : w1.heap.size ≤ w2.heap.size := by have h := hb2.size; first | omega | (simp at h; omega)
  clear hb2
  go_wp2_with fail
  refine (RolesFault_any rs _ cap _ (hr.below (by go_grown) (Nat.le_refl _))).mono ?_
  rw [hQ.out]
  rintro e w3 ⟨rfl, hb3⟩
  have B3 : Below w.heap.size w w3 := bcall (by go_grown) hb3 (by go_size)
  have s3 := B3.size
  have q3 : w2.heap.size ≤ w3.heap.size := by have h := hb3.size; first | omega | (simp at h; omega)
  clear hb3
  go_wp2_with fail
  refine (PathFault_any rs p _ cap _ (hr.below (by go_grown) (Nat.le_refl _)) hp).mono ?_
  rw [HF.out]
  rintro e w4 ⟨rfl, hb4⟩
  have B4 : Below w.heap.size w w4 := bcall (by go_grown) hb4 (by go_size)
  have s4 := B4.size
  have q4 : w3.heap.size ≤ w4.heap.size := by have h := hb4.size; first | omega | (simp at h; omega)
  clear hb4
  go_wp2_with fail
  refine (Chain_any rs p _ cap _ (hr.below (by go_grown) (Nat.le_refl _)) hp).mono ?_
  rintro e w5 ⟨o5, k5, rfl, own5, hb5⟩
  rw [HC.out] at *
  rw [HF.out]
  have sl5 := Sl.own own5
  clear own5
  have B5 : Below w.heap.size w w5 := bcall (by go_grown) hb5 (by go_size)
  have s5 := B5.size
  have q5 : w4.heap.size + 1 ≤ w5.heap.size := by have h := hb5.size; first | omega | (simp at h; omega)
  obtain ⟨ba0, ba1, baf, bag, bal⟩ := (Box2.new w4 (.int .i64 0) (.int .i64 0) 24).below hb5 (by go_size)
  clear hb5
  go_wp2_with fail
  refine (Of_any rs p _ cap _ (hr.below (by go_grown) (Nat.le_refl _)) hp).mono ?_
  rw [hj.out, HF.out]
  rintro e w6 ⟨rfl, hb6⟩
  have B6 : Below w.heap.size w w6 := bcall (by go_grown) hb6 (by go_size)
  have s6 := B6.size
  have q6 : w5.heap.size + 1 ≤ w6.heap.size := by have h := hb6.size; first | omega | (simp at h; omega)
  obtain ⟨ba0, ba1, baf, bag, bal⟩ := ((Box2.mk ba0 ba1 baf bag bal).alloc (.cells #[(.int .i64 0), (.int .i64 0)] 24)).below hb6 (by go_size)
  obtain ⟨bb0, bb1, bbf, bbg, bbl⟩ := (Box2.new w5 (.int .i64 0) (.int .i64 0) 24).below hb6 (by go_size)
  replace sl5 := (sl5.below (by go_grown) (Nat.le_refl _)).below hb6 (Nat.le_refl _)
  clear hb6
  go_wp2_with fail
  refine (Authorized_any rs p l sg _ ob oc cap cb cc _ (hr.below (by go_grown) (Nat.le_refl _)) hp (hb.below (by go_grown) (Nat.le_refl _)) hm2 (hg.below (by go_grown) (Nat.le_refl _)) hm3).mono ?_
  rw [HA.out, HB.out]
  rintro e w7 ⟨rfl, hb7⟩
  have B7 : Below w.heap.size w w7 := bcall (by go_grown) hb7 (by go_size)
  have s7 := B7.size
  have q7 : w6.heap.size + 1 ≤ w7.heap.size := by have h := hb7.size; first | omega | (simp at h; omega)
  obtain ⟨ba0, ba1, baf, bag, bal⟩ := ((Box2.mk ba0 ba1 baf bag bal).alloc (.cells #[(.int .i64 0), (.int .i64 0)] 24)).below hb7 (by go_size)
  obtain ⟨bb0, bb1, bbf, bbg, bbl⟩ := ((Box2.mk bb0 bb1 bbf bbg bbl).alloc (.cells #[(.int .i64 0), (.int .i64 0)] 24)).below hb7 (by go_size)
  obtain ⟨bc0, bc1, bcf, bcg, bcl⟩ := (Box2.new w6 (.int .i64 0) (.int .i64 0) 24).below hb7 (by go_size)
  replace sl5 := (sl5.below (by go_grown) (Nat.le_refl _)).below hb7 (Nat.le_refl _)
  clear hb7
  go_wp2_with fail
  refine (RoleChain_root rs p hp h12 _ cap _ hlen (hr.below (by go_grown) (Nat.le_refl _))).mono ?_
  rintro e w8 ⟨o8, k8, rfl, own8, hb8⟩
  have sl8 := Sl.own own8
  clear own8
  have B8 : Below w.heap.size w w8 := bcall (by go_grown) hb8 (by go_size)
  have s8 := B8.size
  have q8 : w7.heap.size + 1 ≤ w8.heap.size := by have h := hb8.size; first | omega | (simp at h; omega)
  obtain ⟨ba0, ba1, baf, bag, bal⟩ := ((Box2.mk ba0 ba1 baf bag bal).alloc (.cells #[(.int .i64 0), (.int .i64 0)] 24)).below hb8 (by go_size)
  obtain ⟨bb0, bb1, bbf, bbg, bbl⟩ := ((Box2.mk bb0 bb1 bbf bbg bbl).alloc (.cells #[(.int .i64 0), (.int .i64 0)] 24)).below hb8 (by go_size)
  obtain ⟨bc0, bc1, bcf, bcg, bcl⟩ := ((Box2.mk bc0 bc1 bcf bcg bcl).alloc (.cells #[(.int .i64 0), (.int .i64 0)] 24)).below hb8 (by go_size)
  obtain ⟨bd0, bd1, bdf, bdg, bdl⟩ := (Box2.new w7 (.int .i64 0) (.int .i64 0) 24).below hb8 (by go_size)
  replace sl5 := (sl5.below (by go_grown) (Nat.le_refl _)).below hb8 (Nat.le_refl _)
  clear hb8
  rcases sl8.mem with hz | ⟨g8, f8, rfl, hgl, hgc⟩
  · exfalso
    have hz : Pl.chain rs p = [] := by simpa [intVals] using hz
    rw [hz] at hcl1
    simp at hcl1
  have hcl : w8.cell? ⟨g8, f8 + ((Pl.chain rs p).length - 1), none⟩ = some (.int .i64 (j : Int)) := by
    have h := hgc ((Pl.chain rs p).length - 1) _ (intVals_get (Pl.chain rs p) ((Pl.chain rs p).length - 1) (by omega))
    rw [h, ← HO.out, List.getD_eq_getElem?_getD, List.getElem?_eq_getElem (by omega)]
    rfl
  clear hgc
  have hcb := sl8.hcap
  have hcm := sl8.hmax
  unfold maxLen at hcm
  obtain ⟨n, hn⟩ : ∃ n, (Pl.chain rs p).length = n := ⟨_, rfl⟩
  rw [hn] at hcl1 hcl2 hcl hcb sl5 sl8
  rw [hn]
  have ei : ((n : Int) - 1).toNat = n - 1 := by omega
  have e2 : IntKind.i64.wrap ((n : Int) - 1) = (n : Int) - 1 := IntWalk.i64_in _ (by omega)
  have e3 : (0 : Int) ≤ (n : Int) - 1 := by omega
  have e3' : (1 : Int) ≤ (n : Int) := by omega
  have e4 : (n : Int) - 1 < (n : Int) := by omega
  obtain ⟨d0, d1, d2, d3, hkS, hkl, hpl⟩ := R.below B8 (Nat.le_refl _)
  simp only at d0 d1 d2 d3 hkS hkl hpl
  replace hn := Lib.hid hn
  go_wp2_with fail
  refine (SignersFault_any ks l.length sg ka ob oc kc cb cc _ hkS hkl hm2 (hg.below (by go_grown) (Nat.le_refl _)) hm3).mono ?_
  rw [HS.out]
  rintro e w9 ⟨rfl, hb9⟩
  have B9 : Below w.heap.size w w9 := bcall (by go_grown) hb9 (by go_size)
  have s9 := B9.size
  have q9 : w8.heap.size ≤ w9.heap.size := by have h := hb9.size; first | omega | (simp at h; omega)
  obtain ⟨ba0, ba1, baf, bag, bal⟩ := (Box2.mk ba0 ba1 baf bag bal).below hb9 (by go_size)
  obtain ⟨bb0, bb1, bbf, bbg, bbl⟩ := (Box2.mk bb0 bb1 bbf bbg bbl).below hb9 (by go_size)
  obtain ⟨bc0, bc1, bcf, bcg, bcl⟩ := (Box2.mk bc0 bc1 bcf bcg bcl).below hb9 (by go_size)
  obtain ⟨bd0, bd1, bdf, bdg, bdl⟩ := (Box2.mk bd0 bd1 bdf bdg bdl).below hb9 (by go_size)
  replace sl5 := sl5.below hb9 (Nat.le_refl _)
  replace sl8 := sl8.below hb9 (Nat.le_refl _)
  clear hb9
  obtain ⟨d0, d1, d2, d3, hkS, -, -⟩ := R.below B9 (Nat.le_refl _)
  simp only at d0 d1 d2 d3 hkS
  have hlt9 : b < w9.heap.size := by omega
  clear hcl ei e2 e3 e4
  go_wp2_with fail
  refine wp_region_ord [0, 1, 2, 3, 4, 5, 6, 7, 8, 9, 10, 13, 14, 15, 16, 17, 11, 12, 18, 19, 20] (by kernel_rfl) (by kernel_rfl) ?_
  have bx : Below w9.heap.size w9 (w9.alloc (.cells #[.int .i64 0, .int .i64 0] 24)).drew := ((Below.refl _ _).alloc (Nat.le_refl _) _).drew
  have bxB := bcall B9 bx s9
  repeat (refine wpI_rd rfl rfl ?_; go_big_quiet_step (fail); refine wpQuiet_nil ?_)
  refine wpI_call (f := 40) (args := #[.slice ka ks.length kc, .slice ob l.length cb, .slice oc sg.length cc]) rfl rfl rfl (by simp [go_sem]) ?_
  refine (RSigners_ok ks l sg ka ob oc kc cb cc _ (hkS.below bx (Nat.le_refl _)) hK.out (hb.below bxB (Nat.le_refl _)) hn4 (hg.below bxB (Nat.le_refl _)) hs24).mono ?_
  rintro e w10 ⟨o10, k10, rfl, own10, hb10⟩
  refine ⟨_, rfl, hb10, ?_⟩
  have D10 := bcall bx hb10 (by simp)
  have B10 := bcall B9 D10 s9
  have s10 := B10.size
  obtain ⟨be0, be1, bef, beg, bel⟩ := ((Box2.new w9 (.int .i64 0) (.int .i64 0) 24).drew).below hb10 (by simp)
  obtain ⟨ba0, ba1, baf, bag, bal⟩ := (Box2.mk ba0 ba1 baf bag bal).below D10 (by omega)
  obtain ⟨bb0, bb1, bbf, bbg, bbl⟩ := (Box2.mk bb0 bb1 bbf bbg bbl).below D10 (by omega)
  obtain ⟨bc0, bc1, bcf, bcg, bcl⟩ := (Box2.mk bc0 bc1 bcf bcg bcl).below D10 (by omega)
  obtain ⟨bd0, bd1, bdf, bdg, bdl⟩ := (Box2.mk bd0 bd1 bdf bdg bdl).below D10 (by omega)
  replace sl5 := sl5.below D10 (Nat.le_refl _)
  replace sl8 := sl8.below D10 (Nat.le_refl _)
  clear own10 hb10 d0 d1 d2 d3 hkS bx bxB D10
  try simp only [Act.put, List.setIfInBounds_toArray, List.set_cons_zero, List.set_cons_succ]
  repeat (refine wpI_rd rfl rfl ?_; go_big_quiet_step (fail); refine wpQuiet_nil ?_)
  refine wpI_nil ?_
  try simp only [Act.put, List.setIfInBounds_toArray, List.set_cons_zero, List.set_cons_succ]
  rw [hBB.out]
  go_wp2_with fail
  refine (Ints_same (Pl.chain rs p) n hn.out o5 (some ⟨g8, f8, none⟩) k5 k8 _ sl5 sl8 (by omega)).mono ?_
  rintro e w11 ⟨rfl, hb11⟩
  have B11 : Below w.heap.size w w11 := bcall (by go_grown) hb11 (by go_size)
  have s11 := B11.size
  have q11 : w10.heap.size ≤ w11.heap.size := by have h := hb11.size; first | omega | (simp at h; omega)
  obtain ⟨ba0, ba1, baf, bag, bal⟩ := (Box2.mk ba0 ba1 baf bag bal).below hb11 (by go_size)
  obtain ⟨bb0, bb1, bbf, bbg, bbl⟩ := (Box2.mk bb0 bb1 bbf bbg bbl).below hb11 (by go_size)
  obtain ⟨bc0, bc1, bcf, bcg, bcl⟩ := (Box2.mk bc0 bc1 bcf bcg bcl).below hb11 (by go_size)
  obtain ⟨bd0, bd1, bdf, bdg, bdl⟩ := (Box2.mk bd0 bd1 bdf bdg bdl).below hb11 (by go_size)
  obtain ⟨be0, be1, bef, beg, bel⟩ := (Box2.mk be0 be1 bef beg bel).below hb11 (by go_size)
  clear hb11
  go_wp2_with fail
  go_ret
  exact ⟨ret_true (by simp), by go_grown⟩
theorem RolesMatchSpec_main (rs : List Pl.Role) (p : ByteArray) (l : List UInt8) (sg : List (Int × Int)) (oa ob oc : Option Addr) (cap cb cc : Nat) (w : World) (hr : RolesIn w oa cap rs) (hp : p.size ≤ 9223372036854775807)
    (hb : Sl w ob l.length cb 1 (byteVals l)) (hm2 : l.length ≤ 9223372036854775807) (hg : Sl w oc sg.length cc 2 (pairVals sg)) (hm3 : sg.length ≤ 9223372036854775807) :
    Calls Try.prog 9 #[.slice oa rs.length cap, .string p, .slice ob l.length cb, .slice oc sg.length cc] w fun e w' => e = .returned (.bool true) ∧ Below w.heap.size w w' := by
  rcases Pl.pathF_cases rs p with ⟨hF, -⟩ | hF
  · by_cases hA : (Pl.authF rs p l.length sg).1 = 0
    · exact RolesMatchSpec_ok rs p l sg oa ob oc cap cb cc w hr hp hb hm2 hg hm3 hF hA
    · exact RolesMatchSpec_sig rs p l sg oa ob oc cap cb cc w hr hp hb hm2 hg hm3 hF hA
  · exact RolesMatchSpec_bad rs p l sg oa ob oc cap cb cc w hr hp hb hm2 hg hm3 hF
end Go.Proofs.Ytplcbhcbahiheaa
