/- Contracts: the fault of a path; chains, by the program and by the reference. -/
import Derived.Test.YtplcbhcbahiheaaRc
import Derived.Test.YtplcbhcbahiheaaKj
namespace Go.Proofs.Ytplcbhcbahiheaa
open Go.RowKit

def Pl.chainV (rs : List Pl.Role) (p : ByteArray) : List Int := if (Pl.pathF rs p).1 = 0 then Pl.chain rs p else []
theorem PathFault_any (rs : List Pl.Role) (p : ByteArray) (oa : Option Addr) (cap : Nat) (w : World) (hr : RolesIn w oa cap rs) (hp : p.size ≤ 9223372036854775807) :
    Calls Try.prog 34 #[.slice oa rs.length cap, .string p] w fun e w' => e = .returned (.agg #[.int .i64 (Pl.pathF rs p).1, .int .i64 (Pl.pathF rs p).2]) ∧ Below w.heap.size w w' := by
  rcases Pl.rolesF_cases rs with ⟨hF, -⟩ | hF
  · by_cases h0 : p.size = 0
    · have E := Lib.hid (show Pl.pathF rs p = (12, -2) by rw [Pl.pathF, hF, if_pos rfl, if_pos (.inl h0)])
      have HF := Lib.hid hF
      have t1 : p.toList.isEmpty = true := by rw [Pl.toList_nil h0]; rfl
      have t2 : p.toList = [] := Pl.toList_nil h0
      clear hF h0
      go_enter Try.func34, Try.ntmps34
      go_wp2_with fail
      refine (RolesFault_any rs oa cap _ (hr.below (by go_grown) (Nat.le_refl _))).mono ?_
      rw [HF.out]
      rintro e w1 ⟨rfl, hb1⟩
      have B1 : Below w.heap.size w w1 := bcall (by go_grown) hb1 (by simp)
      obtain ⟨c0, c1, f0, f1, l1⟩ := (Box2.new w (.int .i64 0) (.int .i64 0) 24).below hb1 (by simp)
      have s1 := B1.size
      go_wp2_with fail
      refine (rfault_any _ _ _).mono ?_
      rintro e w2 ⟨rfl, hb2⟩
      have B2 : Below w.heap.size w w2 := bcall (B1.alloc s1 _) hb2 (by go_size)
      have s2 := B2.size
      have q2 : w1.heap.size + 1 ≤ w2.heap.size := by have h := hb2.size; first | omega | (simp at h; omega)
      obtain ⟨d0, d1, g0, g1, l2⟩ := (Box2.new w1 (.int .i64 0) (.int .i64 0) 24).below hb2 (by simp)
      obtain ⟨c0, c1, f0, f1, l1⟩ := ((Box2.mk c0 c1 f0 f1 l1).alloc (.cells #[.int .i64 0, .int .i64 0] 24)).below hb2 (by simp; omega)
      go_wp2_with fail
      refine bodyPost_ret (v := .agg #[.int .i64 12, .int .i64 (-2)]) (by simp [results, Try.results34, go_sem, c0, c1]) rfl ⟨by rw [E.out], by go_grown⟩
    · have t1 := Pl.toList_ne h0
      by_cases h1 : 60 < p.size
      · have E := Lib.hid (show Pl.pathF rs p = (12, -2) by rw [Pl.pathF, hF, if_pos rfl, if_pos (.inr h1)])
        have HF := Lib.hid hF
        have t2 : decide ((60 : Int) < (p.size : Int)) = true := by simp; omega
        clear hF h0
        go_enter Try.func34, Try.ntmps34
        go_wp2_with fail
        refine (RolesFault_any rs oa cap _ (hr.below (by go_grown) (Nat.le_refl _))).mono ?_
        rw [HF.out]
        rintro e w1 ⟨rfl, hb1⟩
        have B1 : Below w.heap.size w w1 := bcall (by go_grown) hb1 (by simp)
        obtain ⟨c0, c1, f0, f1, l1⟩ := (Box2.new w (.int .i64 0) (.int .i64 0) 24).below hb1 (by simp)
        have s1 := B1.size
        go_wp2_with fail
        refine (rfault_any _ _ _).mono ?_
        rintro e w2 ⟨rfl, hb2⟩
        have B2 : Below w.heap.size w w2 := bcall (B1.alloc s1 _) hb2 (by go_size)
        have s2 := B2.size
        have q2 : w1.heap.size + 1 ≤ w2.heap.size := by have h := hb2.size; first | omega | (simp at h; omega)
        obtain ⟨d0, d1, g0, g1, l2⟩ := (Box2.new w1 (.int .i64 0) (.int .i64 0) 24).below hb2 (by simp)
        obtain ⟨c0, c1, f0, f1, l1⟩ := ((Box2.mk c0 c1 f0 f1 l1).alloc (.cells #[.int .i64 0, .int .i64 0] 24)).below hb2 (by simp; omega)
        go_wp2_with fail
        refine bodyPost_ret (v := .agg #[.int .i64 12, .int .i64 (-2)]) (by simp [results, Try.results34, go_sem, c0, c1]) rfl ⟨by rw [E.out], by go_grown⟩
      · have E := Lib.hid (show Pl.pathF rs p = (0, 0) by rw [Pl.pathF, hF, if_pos rfl, if_neg (by omega)])
        have HF := Lib.hid hF
        have t2 : decide ((60 : Int) < (p.size : Int)) = false := by simp; omega
        clear hF h0
        go_enter Try.func34, Try.ntmps34
        go_wp2_with fail
        refine (RolesFault_any rs oa cap _ (hr.below (by go_grown) (Nat.le_refl _))).mono ?_
        rw [HF.out]
        rintro e w1 ⟨rfl, hb1⟩
        have B1 : Below w.heap.size w w1 := bcall (by go_grown) hb1 (by simp)
        obtain ⟨c0, c1, f0, f1, l1⟩ := (Box2.new w (.int .i64 0) (.int .i64 0) 24).below hb1 (by simp)
        have s1 := B1.size
        go_wp2_with fail
        refine bodyPost_ret (v := .agg #[.int .i64 0, .int .i64 0]) (by simp [results, Try.results34, go_sem, c0, c1, l1]) rfl ⟨by rw [E.out], by go_grown⟩
  · have E := Lib.hid (show Pl.pathF rs p = Pl.rolesF rs by rw [Pl.pathF, if_neg hF])
    generalize hM : Pl.rolesF rs = G at *
    have HF := Lib.hid hM
    have u1 : (G.1 == 0) = false := by simp [hF]
    have u2 : (G.1 != 0) = true := by simp [hF]
    clear hM hF
    go_enter Try.func34, Try.ntmps34
    go_wp2_with fail
    refine (RolesFault_any rs oa cap _ (hr.below (by go_grown) (Nat.le_refl _))).mono ?_
    rw [HF.out]
    rintro e w1 ⟨rfl, hb1⟩
    have B1 : Below w.heap.size w w1 := bcall (by go_grown) hb1 (by simp)
    obtain ⟨c0, c1, f0, f1, l1⟩ := (Box2.new w (.int .i64 0) (.int .i64 0) 24).below hb1 (by simp)
    have s1 := B1.size
    go_wp2_with fail
    refine bodyPost_ret (v := .agg #[.int .i64 G.1, .int .i64 G.2]) (by simp [results, Try.results34, go_sem, c0, c1, l1]) rfl ⟨by rw [E.out], by go_grown⟩
theorem Chain_bad (rs : List Pl.Role) (p : ByteArray) (oa : Option Addr) (cap : Nat) (w : World) (hr : RolesIn w oa cap rs) (_ : p.size ≤ 9223372036854775807) (hF : (Pl.rolesF rs).1 ≠ 0) :
    Calls Try.prog 35 #[.slice oa rs.length cap, .string p] w (RIntsF 3 (Pl.chainV rs p) (Pl.pathF rs p) w) := by
  have E := Lib.hid (show Pl.pathF rs p = Pl.rolesF rs by rw [Pl.pathF, if_neg hF])
  have EV := Lib.hid (show Pl.chainV rs p = [] by rw [Pl.chainV, E.out, if_neg hF])
  generalize hM : Pl.rolesF rs = G at *
  have HF := Lib.hid hM
  have u1 : (G.1 == 0) = false := by simp [hF]
  have u2 : (G.1 != 0) = true := by simp [hF]
  clear hM hF
  go_enter Try.func35, Try.ntmps35
  go_wp2_with fail
  refine (rolesValidate_any rs oa cap _ (hr.below (by go_grown) (Nat.le_refl _))).mono ?_
  rw [HF.out]
  rintro e w1 ⟨rfl, hb1⟩
  have B1 : Below w.heap.size w w1 := bcall (by go_grown) hb1 (by simp)
  obtain ⟨c0, c1, f0, f1, l1⟩ := (Box2.new w (.int .i64 0) (.int .i64 0) 24).below hb1 (by simp)
  have s1 := B1.size
  go_wp2_with fail
  go_region
  go_wp2_with fail
  refine bodyPost_ret (v := .tuple #[.slice none 0 0, .agg #[.int .i64 G.1, .int .i64 G.2]]) (by simp [results, Try.results35, go_sem, c0, c1, l1]) rfl (RIntsF.bad E.out EV.out (by go_grown))
theorem Chain_empty (rs : List Pl.Role) (p : ByteArray) (oa : Option Addr) (cap : Nat) (w : World) (hr : RolesIn w oa cap rs) (_ : p.size ≤ 9223372036854775807) (hF : Pl.rolesF rs = (0, 0)) (h0 : p.size = 0) :
    Calls Try.prog 35 #[.slice oa rs.length cap, .string p] w (RIntsF 3 (Pl.chainV rs p) (Pl.pathF rs p) w) := by
  have E := Lib.hid (show Pl.pathF rs p = (12, -2) by rw [Pl.pathF, hF, if_pos rfl, if_pos (by omega)])
  have EV := Lib.hid (show Pl.chainV rs p = [] by rw [Pl.chainV, E.out]; rfl)
  have HF := Lib.hid hF
  have t1 : p.toList.isEmpty = true := by rw [Pl.toList_nil h0]; rfl
  have t2 : p.toList = [] := Pl.toList_nil h0
  clear hF h0
  go_enter Try.func35, Try.ntmps35
  go_wp2_with fail
  refine (rolesValidate_any rs oa cap _ (hr.below (by go_grown) (Nat.le_refl _))).mono ?_
  rw [HF.out]
  rintro e w1 ⟨rfl, hb1⟩
  have B1 : Below w.heap.size w w1 := bcall (by go_grown) hb1 (by simp)
  obtain ⟨c0, c1, f0, f1, l1⟩ := (Box2.new w (.int .i64 0) (.int .i64 0) 24).below hb1 (by simp)
  have s1 := B1.size
  go_wp2_with fail
  refine bodyPost_ret (v := .tuple #[.slice none 0 0, .agg #[.int .i64 12, .int .i64 (-2)]]) (by simp [results, Try.results35, go_sem, c0, c1, l1]) rfl (RIntsF.bad E.out EV.out (by go_grown))
theorem Chain_long (rs : List Pl.Role) (p : ByteArray) (oa : Option Addr) (cap : Nat) (w : World) (hr : RolesIn w oa cap rs) (hp : p.size ≤ 9223372036854775807) (hF : Pl.rolesF rs = (0, 0)) (h0 : 60 < p.size) :
    Calls Try.prog 35 #[.slice oa rs.length cap, .string p] w (RIntsF 3 (Pl.chainV rs p) (Pl.pathF rs p) w) := by
  have E := Lib.hid (show Pl.pathF rs p = (12, -2) by rw [Pl.pathF, hF, if_pos rfl, if_pos (by omega)])
  have EV := Lib.hid (show Pl.chainV rs p = [] by rw [Pl.chainV, E.out]; rfl)
  have HF := Lib.hid hF
  have t1 := Pl.toList_ne (show p.size ≠ 0 by omega)
  have t2 : decide ((60 : Int) < (p.size : Int)) = true := by simp; omega
  clear hF h0
  go_enter Try.func35, Try.ntmps35
  go_wp2_with fail
  refine (rolesValidate_any rs oa cap _ (hr.below (by go_grown) (Nat.le_refl _))).mono ?_
  rw [HF.out]
  rintro e w1 ⟨rfl, hb1⟩
  have B1 : Below w.heap.size w w1 := bcall (by go_grown) hb1 (by simp)
  obtain ⟨c0, c1, f0, f1, l1⟩ := (Box2.new w (.int .i64 0) (.int .i64 0) 24).below hb1 (by simp)
  have s1 := B1.size
  go_wp2_with fail
  refine bodyPost_ret (v := .tuple #[.slice none 0 0, .agg #[.int .i64 12, .int .i64 (-2)]]) (by simp [results, Try.results35, go_sem, c0, c1, l1]) rfl (RIntsF.bad E.out EV.out (by go_grown))
theorem scan_all (rs : List Pl.Role) (p : ByteArray) (last : Int) : Pl.scan rs p (rs.length - rs.length) rs.length last = [] := by rw [Nat.sub_self]; rfl
theorem chain_start (rs : List Pl.Role) (p : ByteArray) (h1 : 1 ≤ rs.length) (hv : Pl.roleC rs 0 = 0) : [0] ++ Pl.scan rs p (rs.length - 0) 0 0 = Pl.chain rs p := by
  have h := (Pl.roleC_zero hv).1 rfl
  rw [Pl.scan_step rs p 0 0 (by omega), if_neg (by unfold Pl.hit; rw [h.1]; simp)]
  rfl
set_option maxHeartbeats 1000000 in
theorem Chain_ok (rs : List Pl.Role) (p : ByteArray) (oa : Option Addr) (cap : Nat) (w : World) (hr : RolesIn w oa cap rs) (hp : p.size ≤ 9223372036854775807) (hF : Pl.rolesF rs = (0, 0)) (h1 : 1 ≤ rs.length) (h12 : rs.length ≤ 12) (hv : Pl.roleC rs 0 = 0) (h0 : p.size ≠ 0) (h60 : p.size ≤ 60) :
    Calls Try.prog 35 #[.slice oa rs.length cap, .string p] w (RIntsF 3 (Pl.chainV rs p) (Pl.pathF rs p) w) := by
  have E := Lib.hid (show Pl.pathF rs p = (0, 0) by rw [Pl.pathF, hF, if_pos rfl, if_neg (by omega)])
  have HF := Lib.hid hF
  have hm := hr.len
  have t1 := Pl.toList_ne h0
  have t2 : decide ((60 : Int) < (p.size : Int)) = false := by simp; omega
  have hst := Lib.hid (chain_start rs p h1 hv)
  have EV : Pl.chainV rs p = Pl.chain rs p := by rw [Pl.chainV, E.out]; rfl
  rw [EV]
  generalize Pl.chain rs p = T at *
  clear hF h0 hv EV
  go_enter Try.func35, Try.ntmps35
  go_wp2_with fail
  refine (rolesValidate_any rs oa cap _ (hr.below (by go_grown) (Nat.le_refl _))).mono ?_
  rw [HF.out]
  rintro e w1 ⟨rfl, hb1⟩
  have B1 : Below w.heap.size w w1 := bcall (by go_grown) hb1 (by simp)
  obtain ⟨c0, c1, f0, f1, l1⟩ := (Box2.new w (.int .i64 0) (.int .i64 0) 24).below hb1 (by simp)
  have s1 := B1.size
  have X1 := (Box2.mk c0 c1 f0 f1 l1).alloc (.cells #[.int .i64 0, .int .i64 0] 24)
  have B2 := B1.alloc s1 (.cells #[.int .i64 0, .int .i64 0] 24)
  have s2 := B2.size
  clear c0 c1 f0 f1 l1
  go_wp2_with fail
  have hgs : (w1.alloc (.cells #[.int .i64 0, .int .i64 0] 24)).heap.size = w1.heap.size + 1 := by simp
  have own0 : ((w1.alloc (.cells #[.int .i64 0, .int .i64 0] 24)).alloc (.cells #[.int .i64 0] 3)).ownsRow (w1.alloc (.cells #[.int .i64 0, .int .i64 0] 24)).heap.size 3 1 (.slice (some ⟨w1.heap.size + 1, 0, none⟩) 1 1) 1 (intVals [0]) := own_lit (C := intVals [0]) hgs.symm (by simp) rfl (by decide)
  have bel0 : Below (w1.alloc (.cells #[.int .i64 0, .int .i64 0] 24)).heap.size (w1.alloc (.cells #[.int .i64 0, .int .i64 0] 24)) ((w1.alloc (.cells #[.int .i64 0, .int .i64 0] 24)).alloc (.cells #[.int .i64 0] 3)) := (Below.refl _ _).alloc (Nat.le_refl _) _
  generalize hW : w1.alloc (.cells #[.int .i64 0, .int .i64 0] 24) = W at *
  clear hgs
  obtain ⟨b, off, rfl, hlt, hat⟩ := (hr.below B2 (Nat.le_refl _)).at (by omega)
  clear hr
  go_loopw [7, 27] (fun v i wr => ∃ (k n : Nat) (L : List Int) (o : Option Addr) (c : Nat), k ≤ rs.length ∧ i = .int .i64 k ∧ v = .slice o n c ∧ Hid (n = L.length) ∧ 1 ≤ n ∧ n ≤ k + 1 ∧ wr.ownsRow W.heap.size 3 1 (.slice o n c) n (intVals L) ∧ Below W.heap.size W wr ∧ Hid (L ++ Pl.scan rs p (rs.length - k) k (L.getD (n - 1) 0) = T)) (fun _ i _ => rs.length - (intOf i).toNat)
  case atStart => exact ⟨0, 1, [0], _, _, Nat.zero_le _, rfl, rfl, rfl, by decide, by decide, own0, bel0, hst.out⟩
  case round =>
    clear hst bel0 own0
    obtain ⟨k, n, L, o, c, hk, rfl, rfl, hnL, hn1, hnk, hown, hbw, hu⟩ := hrel
    have sw := hbw.size
    by_cases hlt2 : k < rs.length
    · obtain ⟨ka, kc, R⟩ := hat k hlt2
      have HS := Lib.hid (Pl.scan_step rs p k (L.getD (n - 1) 0) hlt2)
      have hsl := Sl.own hown
      have hcapn := hsl.hcap
      have hmaxn := hsl.hmax
      unfold maxLen at hmaxn
      have hLn : n - 1 < L.length := by have := hnL.out; omega
      rcases hsl.mem with hz | ⟨g, og, rfl, hgl, hgc⟩
      · exfalso
        have : L = [] := by simpa [intVals] using hz
        rw [this] at hLn
        simp at hLn
      · have hcl : wr.cell? ⟨g, og + (n - 1), none⟩ = some (.int .i64 (L.getD (n - 1) 0)) := by
          have := hgc (n - 1) _ (intVals_get L (n - 1) hLn)
          rw [List.getD_eq_getElem?_getD, List.getElem?_eq_getElem hLn]
          exact this
        obtain ⟨last, hlast⟩ : ∃ last, L.getD (n - 1) 0 = last := ⟨_, rfl⟩
        rw [hlast] at hcl HS hu
        replace hlast := Lib.hid hlast
        have R2 := R.below hbw (Nat.le_refl _)
        clear R hgc
        obtain ⟨d0, d1, d2, d3, hkS, hkl, hpl⟩ := R2
        have HH : Pl.hit rs p k last = ((rs.getD k Pl.Role.zero).parent == last && Pl.startsB p (rs.getD k Pl.Role.zero).pre) := rfl
        generalize rs.getD k Pl.Role.zero = r at *
        obtain ⟨pa, pr, ks, nd⟩ := r
        replace HH := Lib.hid HH
        simp only at d0 d1 d2 d3 hkS hkl hpl
        have ei : ((n : Int) - 1).toNat = n - 1 := by omega
        have e2 : IntKind.i64.wrap ((n : Int) - 1) = (n : Int) - 1 := IntWalk.i64_in _ (by omega)
        have e3 : (0 : Int) ≤ (n : Int) - 1 := by omega
        have e3' : (1 : Int) ≤ (n : Int) := by omega
        have e4 : (n : Int) - 1 < (n : Int) := by omega
        have e5 : (k : Int) < (rs.length : Int) := by omega
        clear hsl
        by_cases he : pa = last
        · have t3 : (pa == last) = true := by simp [he]
          cases hs : Pl.startsB p pr with
          | true =>
            have HIT := Lib.hid (show Pl.hit rs p k last = true by rw [HH.out]; simp [t3, hs])
            replace hs := Lib.hid hs
            clear he
            go_wp2_with fail
            go_quiet ((go_at_call 63; exact quiet_eq (HasPrefix_val _ _ _ hs.out hp hpl)))
            have bx : Below wr.heap.size wr ((wr.alloc (.cells #[.int .i64 pa, .string pr, .slice ka ks.length kc, .int .i64 nd] 55)).drewN nq) := below_drewN ((Below.refl _ _).alloc (Nat.le_refl _) _) _
            have own2 := ownsRow_below hown bx (Nat.le_refl _)
            have bel2 := bcall hbw bx sw
            have sz2 := bel2.size
            clear ei e2 e3 e4
            go_wp2_with (at_builtin; refine ap1g (by rfl) (by rfl) Try.tInts bel2 (by rfl) own2 (g := wr.heap.size + 1) (m := 1) (by simp) (by rfl) (by rfl) (by rfl) (by omega) sz2 ?_; intro v3 w3 own3 bel3 h3; obtain ⟨o3, c3, rfl⟩ := own_slice own3)
            go_roundw
            case rel => exact ⟨k + 1, n + 1, L ++ [(k : Int)], o3, c3, hlt2, by go_num, rfl, by show n + 1 = _; rw [hnL.out]; simp, by omega, by omega, by rw [intVals_append]; exact own3, bel3, by
              show _ = T
              rw [← hu.out, HS.out, if_pos HIT.out, List.append_assoc, Nat.add_sub_cancel]
              congr 2
              rw [List.getD_eq_getElem?_getD, hnL.out]
              simp⟩
            case measure => simp [intOf]; omega
          | false =>
            have HIT := Lib.hid (show ¬ Pl.hit rs p k last = true by rw [HH.out]; simp [hs])
            replace hs := Lib.hid hs
            clear he
            go_wp2_with fail
            go_quiet ((go_at_call 63; exact quiet_eq (HasPrefix_val _ _ _ hs.out hp hpl)))
            have bx : Below wr.heap.size wr ((wr.alloc (.cells #[.int .i64 pa, .string pr, .slice ka ks.length kc, .int .i64 nd] 55)).drewN nq) := below_drewN ((Below.refl _ _).alloc (Nat.le_refl _) _) _
            have own2 := ownsRow_below hown bx (Nat.le_refl _)
            have bel2 := bcall hbw bx sw
            clear ei e2 e3 e4
            go_wp2_with fail
            go_roundw
            case rel => exact ⟨k + 1, n, L, _, _, hlt2, by go_num, rfl, hnL, hn1, by omega, own2, bel2, by show _ = T; rw [← hu.out, HS.out, if_neg HIT.out]; rw [hlast.out]⟩
            case measure => simp [intOf]; omega
        · have t3 : (pa == last) = false := by simp [he]
          have HIT := Lib.hid (show ¬ Pl.hit rs p k last = true by rw [HH.out]; simp [t3])
          clear he
          go_wp2_with fail
          go_quiet (fail)
          have bx : Below wr.heap.size wr ((wr.alloc (.cells #[.int .i64 pa, .string pr, .slice ka ks.length kc, .int .i64 nd] 55)).drewN nq) := below_drewN ((Below.refl _ _).alloc (Nat.le_refl _) _) _
          have own2 := ownsRow_below hown bx (Nat.le_refl _)
          have bel2 := bcall hbw bx sw
          clear ei e2 e3 e4
          go_wp2_with fail
          go_roundw
          case rel => exact ⟨k + 1, n, L, _, _, hlt2, by go_num, rfl, hnL, hn1, by omega, own2, bel2, by show _ = T; rw [← hu.out, HS.out, if_neg HIT.out]; rw [hlast.out]⟩
          case measure => simp [intOf]; omega
    · obtain rfl : k = rs.length := by omega
      have hT : L = T := by rw [← hu.out, scan_all, List.append_nil]
      subst hT
      have t5 : decide ((rs.length : Int) < (rs.length : Int)) = false := by simp
      have B5 : Below w.heap.size w wr := bcall B2 hbw s2
      obtain ⟨c0, c1, f0, f1, l1⟩ := X1.below hbw X1.lt
      have hown5 := ownsRow_setCell_below (ownsRow_setCell_below hown (a := ⟨w.heap.size, 0, none⟩) X1.lt (.int .i64 0)) (a := ⟨w.heap.size, 1, none⟩) X1.lt (.int .i64 0)
      go_wp2_with fail
      refine bodyPost_ret (v := .tuple #[.slice o n c, .agg #[.int .i64 0, .int .i64 0]]) (by simp [results, Try.results35, go_sem, c0, c1]) rfl (RIntsF.ok E.out hnL.out hown5 s2 (by go_grown))
theorem Chain_any (rs : List Pl.Role) (p : ByteArray) (oa : Option Addr) (cap : Nat) (w : World) (hr : RolesIn w oa cap rs) (hp : p.size ≤ 9223372036854775807) :
    Calls Try.prog 35 #[.slice oa rs.length cap, .string p] w (RIntsF 3 (Pl.chainV rs p) (Pl.pathF rs p) w) := by
  rcases Pl.rolesF_cases rs with ⟨hF, h1, h12, hv⟩ | hF
  · by_cases h0 : p.size = 0
    · exact Chain_empty rs p oa cap w hr hp hF h0
    · by_cases h60 : 60 < p.size
      · exact Chain_long rs p oa cap w hr hp hF h60
      · exact Chain_ok rs p oa cap w hr hp hF h1 h12 (hv 0 (by omega)) h0 (by omega)
  · exact Chain_bad rs p oa cap w hr hp hF
end Go.Proofs.Ytplcbhcbahiheaa
