/- Contracts: the responsible role, authorizations; the reference's chains. -/
import Derived.Test.YtplcbhcbahiheaaRd
namespace Go.Proofs.Ytplcbhcbahiheaa
open Go.RowKit

namespace Pl
def ofRole (rs : List Role) (p : ByteArray) : Int := if (pathF rs p).1 = 0 then (chain rs p).getD ((chain rs p).length - 1) 0 else 0
theorem scan_mem (rs : List Role) (p : ByteArray) : ∀ (n k : Nat) (last : Int) (x : Int), x ∈ scan rs p n k last → ∃ j : Nat, x = (j : Int) ∧ k ≤ j ∧ j < k + n ∧ startsB p (rs.getD j Role.zero).pre = true
  | 0, _, _, _, h => by cases h
  | n + 1, k, last, x, h => by
    rw [scan] at h
    split at h
    · rename_i hh
      rcases List.mem_cons.1 h with rfl | h
      · simp only [hit, Bool.and_eq_true] at hh
        exact ⟨k, rfl, Nat.le_refl _, by omega, hh.2⟩
      · obtain ⟨j, h1, h2, h3, h4⟩ := scan_mem rs p n (k + 1) k x h
        exact ⟨j, h1, by omega, by omega, h4⟩
    · obtain ⟨j, h1, h2, h3, h4⟩ := scan_mem rs p n (k + 1) last x h
      exact ⟨j, h1, by omega, by omega, h4⟩
theorem scan_len (rs : List Role) (p : ByteArray) : ∀ (n k : Nat) (last : Int), (scan rs p n k last).length ≤ n
  | 0, _, _ => Nat.le_refl _
  | n + 1, k, last => by
    rw [scan]
    split
    · have := scan_len rs p n (k + 1) k; simp; omega
    · have := scan_len rs p n (k + 1) last; omega
theorem chain_mem {rs : List Role} {p : ByteArray} (h1 : 1 ≤ rs.length) {x : Int} (h : x ∈ chain rs p) : ∃ j : Nat, x = (j : Int) ∧ j < rs.length := by
  rcases List.mem_cons.1 h with rfl | h
  · exact ⟨0, rfl, by omega⟩
  · obtain ⟨j, e, _, h3, _⟩ := scan_mem rs p _ _ _ _ h
    exact ⟨j, e, by omega⟩
theorem chain_len (rs : List Role) (p : ByteArray) : 1 ≤ (chain rs p).length := by simp [chain]
theorem ofRole_nat {rs : List Role} {p : ByteArray} (h1 : 1 ≤ rs.length) (hF : pathF rs p = (0, 0)) : ∃ j : Nat, ofRole rs p = (j : Int) ∧ j < rs.length := by
  have hl := chain_len rs p
  have e : ofRole rs p = (chain rs p)[(chain rs p).length - 1]'(by omega) := by
    unfold ofRole
    rw [hF, if_pos rfl, List.getD_eq_getElem?_getD, List.getElem?_eq_getElem (by omega)]
    rfl
  rw [e]
  exact chain_mem h1 (List.getElem_mem _)
def authF (rs : List Role) (p : ByteArray) (n : Nat) (sg : List (Int × Int)) : Int × Int := if (pathF rs p).1 = 0 then accF (rs.getD (ofRole rs p).toNat Role.zero).keys (rs.getD (ofRole rs p).toNat Role.zero).need n sg else pathF rs p
def authB (rs : List Role) (p : ByteArray) (l : List UInt8) (sg : List (Int × Int)) : Bool := if (pathF rs p).1 = 0 then accB (rs.getD (ofRole rs p).toNat Role.zero).keys (rs.getD (ofRole rs p).toNat Role.zero).need l sg else false
end Pl

theorem Of_any (rs : List Pl.Role) (p : ByteArray) (oa : Option Addr) (cap : Nat) (w : World) (hr : RolesIn w oa cap rs) (hp : p.size ≤ 9223372036854775807) :
    Calls Try.prog 36 #[.slice oa rs.length cap, .string p] w fun e w' => e = .returned (.tuple #[.int .i64 (Pl.ofRole rs p), .agg #[.int .i64 (Pl.pathF rs p).1, .int .i64 (Pl.pathF rs p).2]]) ∧ Below w.heap.size w w' := by
  rcases Pl.pathF_cases rs p with ⟨hF, -⟩ | hF
  · have HV := Lib.hid (show Pl.chainV rs p = Pl.chain rs p by rw [Pl.chainV, hF]; rfl)
    have HO := Lib.hid (show Pl.ofRole rs p = (Pl.chain rs p).getD ((Pl.chain rs p).length - 1) 0 by rw [Pl.ofRole, hF]; rfl)
    have hlen := Pl.chain_len rs p
    have HF := Lib.hid hF
    rw [hF]
    clear hF
    obtain ⟨v, hv⟩ : ∃ v, Pl.ofRole rs p = v := ⟨_, rfl⟩
    rw [hv]
    replace HO := Lib.hid (hv.symm.trans HO.out)
    clear hv
    go_enter Try.func36, Try.ntmps36
    go_wp2_with fail
    refine (Chain_any rs p oa cap _ (hr.below (by go_grown) (Nat.le_refl _)) hp).mono ?_
    rintro e w1 ⟨o, c, rfl, hown, hb1⟩
    rw [HV.out, HF.out] at *
    have B1 : Below w.heap.size w w1 := bcall (by go_grown) hb1 (by simp)
    have s1 := B1.size
    obtain ⟨c0, c1, f0, f1, l1⟩ := (Box2.new w (.int .i64 0) (.int .i64 0) 24).below hb1 (by simp)
    generalize Pl.chain rs p = L at *
    have hsl := Sl.own hown
    have hcapn := hsl.hcap
    have hmaxn := hsl.hmax
    unfold maxLen at hmaxn
    have hLn : L.length - 1 < L.length := by omega
    rcases hsl.mem with hz | ⟨g, og, rfl, hgl, hgc⟩
    · exfalso
      have : L = [] := by simpa [intVals] using hz
      rw [this] at hLn
      simp at hLn
    have hcl : w1.cell? ⟨g, og + (L.length - 1), none⟩ = some (.int .i64 (L.getD (L.length - 1) 0)) := by
      have := hgc (L.length - 1) _ (intVals_get L (L.length - 1) hLn)
      rw [List.getD_eq_getElem?_getD, List.getElem?_eq_getElem hLn]
      exact this
    rw [← HO.out] at hcl
    clear hgc HO HF HV
    have hgg : g ≠ w.heap.size := by
      rcases hown.2 with h0 | ⟨g2, cc, cur, h1, h2, _⟩
      · cases h0.1
      · cases h1
        simp at h2
        omega
    generalize hLL : L.length = n at *
    have hcl0 := hcl
    have ei : ((n : Int) - 1).toNat = n - 1 := by omega
    have e2 : IntKind.i64.wrap ((n : Int) - 1) = (n : Int) - 1 := IntWalk.i64_in _ (by omega)
    have e3 : (0 : Int) ≤ (n : Int) - 1 := by omega
    have e3' : (1 : Int) ≤ (n : Int) := by omega
    have e4 : (n : Int) - 1 < (n : Int) := by omega
    clear hsl hown hLL
    go_wp2_with fail
    refine bodyPost_ret (v := .tuple #[.int .i64 v, .agg #[.int .i64 0, .int .i64 0]]) (by simp [results, Try.results36, go_sem, c0, c1, l1]) rfl ⟨rfl, by go_grown⟩
  · have HV := Lib.hid (show Pl.chainV rs p = [] by rw [Pl.chainV, if_neg hF])
    rw [show Pl.ofRole rs p = 0 by rw [Pl.ofRole, if_neg hF]]
    generalize hM : Pl.pathF rs p = G at *
    have HF := Lib.hid hM
    have u1 : (G.1 == 0) = false := by simp [hF]
    have u2 : (G.1 != 0) = true := by simp [hF]
    clear hM hF
    go_enter Try.func36, Try.ntmps36
    go_wp2_with fail
    refine (Chain_any rs p oa cap _ (hr.below (by go_grown) (Nat.le_refl _)) hp).mono ?_
    rintro e w1 ⟨o, c, rfl, hown, hb1⟩
    rw [HV.out, HF.out] at *
    have B1 : Below w.heap.size w w1 := bcall (by go_grown) hb1 (by simp)
    have s1 := B1.size
    obtain ⟨c0, c1, f0, f1, l1⟩ := (Box2.new w (.int .i64 0) (.int .i64 0) 24).below hb1 (by simp)
    clear hown
    go_wp2_with fail
    go_region
    go_wp2_with fail
    refine bodyPost_ret (v := .tuple #[.int .i64 0, .agg #[.int .i64 G.1, .int .i64 G.2]]) (by simp [results, Try.results36, go_sem, c0, c1, l1]) rfl ⟨rfl, by go_grown⟩
theorem Authorized_any (rs : List Pl.Role) (p : ByteArray) (l : List UInt8) (sg : List (Int × Int)) (oa ob oc : Option Addr) (cap cb cc : Nat) (w : World) (hr : RolesIn w oa cap rs) (hp : p.size ≤ 9223372036854775807)
    (hb : Sl w ob l.length cb 1 (byteVals l)) (hm2 : l.length ≤ 9223372036854775807) (hg : Sl w oc sg.length cc 2 (pairVals sg)) (hm3 : sg.length ≤ 9223372036854775807) :
    Calls Try.prog 37 #[.slice oa rs.length cap, .string p, .slice ob l.length cb, .slice oc sg.length cc] w fun e w' =>
      e = .returned (.tuple #[.bool (Pl.authB rs p l sg), .agg #[.int .i64 (Pl.authF rs p l.length sg).1, .int .i64 (Pl.authF rs p l.length sg).2]]) ∧ Below w.heap.size w w' := by
  rcases Pl.pathF_cases rs p with ⟨hF, hR, -⟩ | hF
  · have HA := Lib.hid (show Pl.authF rs p l.length sg = Pl.accF (rs.getD (Pl.ofRole rs p).toNat Pl.Role.zero).keys (rs.getD (Pl.ofRole rs p).toNat Pl.Role.zero).need l.length sg by rw [Pl.authF, hF]; rfl)
    have HB := Lib.hid (show Pl.authB rs p l sg = Pl.accB (rs.getD (Pl.ofRole rs p).toNat Pl.Role.zero).keys (rs.getD (Pl.ofRole rs p).toNat Pl.Role.zero).need l sg by rw [Pl.authB, hF]; rfl)
    have hm := hr.len
    have hlen : 1 ≤ rs.length := by
      rcases Pl.rolesF_cases rs with ⟨_, h, _⟩ | h
      · exact h
      · rw [hR] at h; exact absurd rfl h
    obtain ⟨j, hj, hjl⟩ := Pl.ofRole_nat hlen hF
    have HF := Lib.hid hF
    clear hF hR
    rw [hj, Int.toNat_natCast] at HA HB
    replace hj := Lib.hid hj
    rw [HA.out, HB.out]
    obtain ⟨r, hrj⟩ : ∃ r, rs.getD j Pl.Role.zero = r := ⟨_, rfl⟩
    rw [hrj]
    replace hrj := Lib.hid hrj
    clear HA HB
    obtain ⟨pa, pr, ks, nd⟩ := r
    go_enter Try.func37, Try.ntmps37
    go_wp2_with fail
    refine (Of_any rs p oa cap _ (hr.below (by go_grown) (Nat.le_refl _)) hp).mono ?_
    rw [hj.out, HF.out]
    rintro e w1 ⟨rfl, hb1⟩
    have B1 : Below w.heap.size w w1 := bcall (by go_grown) hb1 (by simp)
    have s1 := B1.size
    obtain ⟨c0, c1, f0, f1, l1⟩ := (Box2.new w (.int .i64 0) (.int .i64 0) 24).below hb1 (by simp)
    clear HF hj
    have B2 := B1.alloc s1 (.cells #[.int .i64 0, .int .i64 0] 24)
    obtain ⟨b, off, rfl, hlt, hat⟩ := (hr.below B1 (Nat.le_refl _)).at (by omega)
    clear hr
    obtain ⟨ka, kc, R⟩ := hat j hjl
    have hb2 := hb.below B1 (Nat.le_refl _)
    have hg2 := hg.below B1 (Nat.le_refl _)
    clear hat hb hg
    rw [hrj.out] at R
    obtain ⟨d0, d1, d2, d3, hkS, hkl, hpl⟩ := R
    simp only at d0 d1 d2 d3 hkS hkl hpl
    have t1 : (j : Int) < (rs.length : Int) := by omega
    have t2 : (0 : Int) ≤ (j : Int) := by omega
    go_wp2_with fail
    refine wp_region_ord [0, 1, 2, 3, 4, 5, 6, 7, 8, 9, 10, 11, 12, 13, 14, 15, 16] (by kernel_rfl) (by kernel_rfl) ?_
    repeat (refine wpI_rd rfl rfl ?_; go_big_quiet_step (fail); refine wpQuiet_nil ?_)
    refine wpI_call (f := 64) (args := #[.slice ka ks.length kc, .int .i64 nd, .slice ob l.length cb, .slice oc sg.length cc]) rfl rfl rfl (by simp [go_sem]) ?_
    have bx : Below w1.heap.size w1 (w1.alloc (.cells #[.int .i64 0, .int .i64 0] 24)).drew := ((Below.refl _ _).alloc (Nat.le_refl _) _).drew
    refine (Accept_any ks nd l sg ka ob oc kc cb cc _ (hkS.below bx (Nat.le_refl _)) hkl (hb2.below bx (Nat.le_refl _)) hm2 (hg2.below bx (Nat.le_refl _)) hm3).mono ?_
    rintro e w2 ⟨rfl, hb3⟩
    refine ⟨_, rfl, hb3, ?_⟩
    have B3 : Below w.heap.size w w2 := bcall (B2.drew) hb3 (by simp; omega)
    obtain ⟨c0, c1, f0, f1, l1⟩ := ((Box2.mk c0 c1 f0 f1 l1).alloc (.cells #[.int .i64 0, .int .i64 0] 24)).drew.below hb3 (by simp; omega)
    clear hb3
    try simp only [Act.put, List.setIfInBounds_toArray, List.set_cons_zero, List.set_cons_succ]
    repeat (refine wpI_rd rfl rfl ?_; go_big_quiet_step (fail); refine wpQuiet_nil ?_)
    refine wpI_st rfl rfl rfl (by simp [go_sem, c0, c1, f0, f1]; rfl) ?_
    refine wpI_nil ?_
    try simp only [Act.put]
    go_wp2_with fail
    refine bodyPost_ret (v := .tuple #[.bool (Pl.accB ks nd l sg), .agg #[.int .i64 (Pl.accF ks nd l.length sg).1, .int .i64 (Pl.accF ks nd l.length sg).2]]) (by simp [results, Try.results37, go_sem, c0, c1]) rfl ⟨rfl, by go_grown⟩
  · have HA := Lib.hid (show Pl.authF rs p l.length sg = Pl.pathF rs p by rw [Pl.authF, if_neg hF])
    have HB := Lib.hid (show Pl.authB rs p l sg = false by rw [Pl.authB, if_neg hF])
    rw [HA.out, HB.out]
    generalize hM : Pl.pathF rs p = G at *
    have HF := Lib.hid hM
    have u1 : (G.1 == 0) = false := by simp [hF]
    have u2 : (G.1 != 0) = true := by simp [hF]
    clear hM hF
    go_enter Try.func37, Try.ntmps37
    go_wp2_with fail
    refine (Of_any rs p oa cap _ (hr.below (by go_grown) (Nat.le_refl _)) hp).mono ?_
    rw [HF.out]
    rintro e w1 ⟨rfl, hb1⟩
    have B1 : Below w.heap.size w w1 := bcall (by go_grown) hb1 (by simp)
    have s1 := B1.size
    obtain ⟨c0, c1, f0, f1, l1⟩ := (Box2.new w (.int .i64 0) (.int .i64 0) 24).below hb1 (by simp)
    generalize Pl.ofRole rs p = v at *
    go_wp2_with fail
    go_region
    go_wp2_with fail
    refine bodyPost_ret (v := .tuple #[.bool false, .agg #[.int .i64 G.1, .int .i64 G.2]]) (by simp [results, Try.results37, go_sem, c0, c1, l1]) rfl ⟨rfl, by go_grown⟩
set_option maxRecDepth 100000 in
set_option maxHeartbeats 1000000 in
theorem RoleChain_any (rs : List Pl.Role) (p : ByteArray) (hp : p.size ≤ 9223372036854775807) (h12 : rs.length ≤ 12) : ∀ (m i : Nat) (oa : Option Addr) (cap : Nat) (w : World), rs.length - i = m → i < rs.length → RolesIn w oa cap rs →
    Calls Try.prog 38 #[.slice oa rs.length cap, .string p, .int .i64 (i : Int)] w (RInts 3 ((i : Int) :: Pl.scan rs p (rs.length - (i + 1)) (i + 1) (i : Int)) w)
  | m, i, oa, cap, w, hmi, hi, hr => by
    obtain ⟨b, off, rfl, hlt, hat⟩ := hr.at (by omega)
    obtain ⟨T, hT⟩ : ∃ T, Pl.scan rs p (rs.length - (i + 1)) (i + 1) (i : Int) = T := ⟨_, rfl⟩
    rw [hT]
    replace hT := Lib.hid hT
    have REC := Lib.hid (fun (k : Nat) (w : World) (h : i < k) (hk : k < rs.length) (hr : RolesIn w (some ⟨b, off, none⟩) cap rs) => RoleChain_any rs p hp h12 (rs.length - k) k (some ⟨b, off, none⟩) cap w rfl hk hr)
    go_enter Try.func38, Try.ntmps38
    go_wp2_with fail
    go_loopw [7] (fun v wr => ∃ k : Nat, i < k ∧ k ≤ rs.length ∧ v = .int .i64 (k : Int) ∧ Below w.heap.size w wr ∧ Hid (Pl.scan rs p (rs.length - k) k (i : Int) = T)) (fun v _ => rs.length - (intOf v).toNat)
    case atStart => exact ⟨i + 1, by omega, by omega, by go_num, Below.refl _ _, hT.out⟩
    case round =>
      clear hT
      obtain ⟨k, hik, hk, rfl, hbw, hu⟩ := hrel
      have sw := hbw.size
      have hrw := hr.below hbw (Nat.le_refl _)
      by_cases hlt2 : k < rs.length
      · obtain ⟨ka, kc, R⟩ := hat k hlt2
        have HS := Lib.hid (Pl.scan_step rs p k (i : Int) hlt2)
        have R2 := R.below hbw (Nat.le_refl _)
        clear R hat hr
        obtain ⟨d0, d1, d2, d3, hkS, hkl, hpl⟩ := R2
        have HH : Pl.hit rs p k (i : Int) = ((rs.getD k Pl.Role.zero).parent == (i : Int) && Pl.startsB p (rs.getD k Pl.Role.zero).pre) := rfl
        generalize rs.getD k Pl.Role.zero = r at *
        obtain ⟨pa, pr, ks, nd⟩ := r
        replace HH := Lib.hid HH
        simp only at d0 d1 d2 d3 hkS hkl hpl
        have e5 : (k : Int) < (rs.length : Int) := by omega
        have e6 : (0 : Int) ≤ (k : Int) := by omega
        have e7 : decide (k < rs.length) = true := by simp; omega
        replace hrw := Lib.hid hrw
        by_cases he : pa = (i : Int)
        · have t3 : (pa == (i : Int)) = true := by simp [he]
          cases hs : Pl.startsB p pr with
          | true =>
            have HIT := Lib.hid (show Pl.hit rs p k (i : Int) = true by rw [HH.out]; simp [t3, hs])
            have hT2 := Lib.hid (show (k : Int) :: Pl.scan rs p (rs.length - (k + 1)) (k + 1) (k : Int) = T by rw [← hu.out, HS.out, if_pos HIT.out])
            replace hs := Lib.hid hs
            clear he HS hu
            go_wp2_with (go_at_call 41; refine (Starts_val _ _ _ hs.out hp hpl).mono ?_; rintro e w' ⟨rfl, rfl⟩)
            have own0 : (wr.alloc (.cells #[.int .i64 (i : Int)] 3)).ownsRow wr.heap.size 3 1 (.slice (some ⟨wr.heap.size, 0, none⟩) 1 1) 1 (intVals [(i : Int)]) := own_lit (C := intVals [(i : Int)]) rfl (by simp) rfl (by decide)
            refine (REC.out k _ hik hlt2 (hrw.out.below ((Below.refl _ _).alloc (Nat.le_refl _) _) (Nat.le_refl _))).mono ?_
            rw [hT2.out]
            rintro e w2 ⟨o2, c2, rfl, hown2, hb2⟩
            have hl2 : T.length ≤ 12 := by rw [← hT2.out]; have := Pl.scan_len rs p (rs.length - (k + 1)) (k + 1) (k : Int); simp; omega
            have own1 := ownsRow_below own0 hb2 (Nat.le_refl _)
            have B2 : Below w.heap.size w w2 := bcall (hbw.alloc sw _) hb2 (by simp; omega)
            have s2 := B2.size
            have q2 : wr.heap.size ≤ w2.heap.size := by have := hb2.size; simp at this; omega
            have src := Src.ofSl (P := Try.prog) (t := 22) Try.underlying22 (Sl.own hown2) (by decide) (by intro u hu; simp only [intVals, List.mem_map] at hu; obtain ⟨x, _, rfl⟩ := hu; rfl)
            have own1' := own_base0 own1 (show w.heap.size ≤ wr.heap.size by omega)
            clear hown2 own0 own1
            go_wp2_with (at_builtin; refine ap (by rfl) (by rfl) Try.tInts B2 (by rfl) own1' (m := T.length) src (by omega) s2 ?_; intro v3 w3 own3 bel3 h3; obtain ⟨o3, c3, rfl⟩ := own_slice own3)
            go_ret
            exact RInts.ok (xs := (i : Int) :: T) (by rw [List.length_cons, Nat.add_comm]) (by rw [← intVals_append] at own3; exact own3) (Nat.le_refl _) bel3
          | false =>
            have HIT := Lib.hid (show ¬ Pl.hit rs p k (i : Int) = true by rw [HH.out]; simp [hs])
            replace hs := Lib.hid hs
            clear he
            go_wp2_with (go_at_call 41; refine (Starts_val _ _ _ hs.out hp hpl).mono ?_; rintro e w' ⟨rfl, rfl⟩)
            go_roundw
            case rel => exact ⟨k + 1, by omega, hlt2, by go_num, hbw, by show _ = T; rw [← hu.out, HS.out, if_neg HIT.out]⟩
            case measure => simp [intOf]; omega
        · have t3 : (pa == (i : Int)) = false := by simp [he]
          have HIT := Lib.hid (show ¬ Pl.hit rs p k (i : Int) = true by rw [HH.out]; simp [t3])
          clear he
          go_wp2_with fail
          go_roundw
          case rel => exact ⟨k + 1, by omega, hlt2, by go_num, hbw, by show _ = T; rw [← hu.out, HS.out, if_neg HIT.out]⟩
          case measure => simp [intOf]; omega
      · obtain rfl : k = rs.length := by omega
        have hT : T = [] := by rw [← hu.out, scan_all]
        subst hT
        have t5 : decide ((rs.length : Int) < (rs.length : Int)) = false := by simp
        have own0 : (wr.alloc (.cells #[.int .i64 (i : Int)] 3)).ownsRow w.heap.size 3 1 (.slice (some ⟨wr.heap.size, 0, none⟩) 1 1) 1 (intVals [(i : Int)]) := own_lit (C := intVals [(i : Int)]) rfl (by omega) rfl (by decide)
        go_wp2_with fail
        go_ret
        exact RInts.ok rfl own0 (Nat.le_refl _) (by go_grown)
  termination_by m => m
  decreasing_by all_goals (subst hmi; omega)
end Go.Proofs.Ytplcbhcbahiheaa
