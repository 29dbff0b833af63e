/- The law RolesChainsAreNested returns true. -/
import Derived.Test.YtplcbhcbahiheaaRg
namespace Go.Proofs.Ytplcbhcbahiheaa
open Go.RowKit

namespace Pl
theorem scan_links (rs : List Role) (p : ByteArray) : ∀ (n k : Nat) (last : Int), last < (k : Int) → ∀ i, i < (scan rs p n k last).length →
    ∃ j : Nat, (scan rs p n k last).getD i 0 = (j : Int) ∧ j < k + n ∧ hit rs p j ((last :: scan rs p n k last).getD i 0) = true ∧ (last :: scan rs p n k last).getD i 0 < (j : Int)
  | 0, _, _, _, i, h => by simp [scan] at h
  | n + 1, k, last, hl, i, h => by
    rw [scan] at h ⊢
    split
    · rename_i hh
      rw [if_pos hh] at h
      cases i with
      | zero => exact ⟨k, by simp, by omega, by simpa using hh, by simpa using hl⟩
      | succ i =>
        obtain ⟨j, h1, h2, h3, h4⟩ := scan_links rs p n (k + 1) (k : Int) (by omega) i (by simpa using h)
        exact ⟨j, by simpa using h1, by omega, by simpa using h3, by simpa using h4⟩
    · rename_i hh
      rw [if_neg hh] at h
      obtain ⟨j, h1, h2, h3, h4⟩ := scan_links rs p n (k + 1) last (by omega) i h
      exact ⟨j, h1, by omega, h3, h4⟩
/-- What a chain's place k says. -/
theorem chain_link {rs : List Role} {p : ByteArray} (h1 : 1 ≤ rs.length) (hv : ∀ i, i < rs.length → roleC rs i = 0) {k : Nat} (hk0 : 0 < k) (hk : k < (chain rs p).length) :
    ∃ j i : Nat, (chain rs p).getD k 0 = (j : Int) ∧ (chain rs p).getD (k - 1) 0 = (i : Int) ∧ j < rs.length ∧ i < j ∧ (rs.getD j Role.zero).parent = (i : Int) ∧ startsB p (rs.getD j Role.zero).pre = true ∧ startsB (rs.getD j Role.zero).pre (rs.getD i Role.zero).pre = true := by
  obtain ⟨k, rfl⟩ : ∃ m, k = m + 1 := ⟨k - 1, by omega⟩
  unfold chain at hk ⊢
  obtain ⟨j, h2, h3, h4, h5⟩ := scan_links rs p (rs.length - 1) 1 0 (by decide) k (by simpa using hk)
  have hj : j < rs.length := by omega
  simp only [hit, Bool.and_eq_true, beq_iff_eq] at h4
  have hr := roleC_zero (hv j hj)
  generalize hP : ((0 : Int) :: scan rs p (rs.length - 1) 1 0).getD k 0 = P at *
  have h0 : 0 < j := by
    rcases Nat.eq_zero_or_pos j with h | h
    · subst h
      have := (hr.1 rfl).1
      exfalso
      have hm : P ∈ (0 : Int) :: scan rs p (rs.length - 1) 1 0 := by
        rw [← hP, List.getD_eq_getElem?_getD, List.getElem?_eq_getElem (by omega)]
        exact List.getElem_mem _
      obtain ⟨i, e, _⟩ := chain_mem (p := p) h1 (x := P) hm
      omega
    · exact h
  have hr2 := hr.2.1 h0
  obtain ⟨i, hi⟩ := Int.eq_ofNat_of_zero_le hr2.1
  have hPi : P = (i : Int) := by rw [← h4.1]; exact hi
  refine ⟨j, i, by simpa using h2, by rw [Nat.add_sub_cancel, hP]; exact hPi, hj, by omega, hi, h4.2, ?_⟩
  have := hr2.2.2
  rwa [hi, Int.toNat_natCast] at this
theorem startsB_nil {p q : ByteArray} (h : q.size = 0) : startsB p q = true := by
  have e : q = ByteArray.empty := by
    cases q with
    | mk d =>
      have : d.size = 0 := h
      have : d = #[] := Array.eq_empty_of_size_eq_zero this
      subst this
      rfl
  subst e
  unfold startsB
  simp
theorem chain_root (rs : List Role) (p : ByteArray) : (chain rs p).getD 0 0 = 0 := rfl
end Pl
theorem RolesChainsAreNested_bad (rs : List Pl.Role) (p : ByteArray) (oa : Option Addr) (cap : Nat) (w : World) (hr : RolesIn w oa cap rs) (hp : p.size ≤ 9223372036854775807) (hF : (Pl.pathF rs p).1 ≠ 0) :
    Calls Try.prog 10 #[.slice oa rs.length cap, .string p] w fun e w' => e = .returned (.bool true) ∧ Below w.heap.size w w' := by
  have HC := Lib.hid (show Pl.chainV rs p = [] by rw [Pl.chainV, if_neg hF])
  generalize hM : Pl.pathF rs p = G at *
  have HF := Lib.hid hM
  have u1 : (G.1 == 0) = false := by simp [hF]
  have u2 : (G.1 != 0) = true := by simp [hF]
  clear hM hF
  go_enter Try.func10, Try.ntmps10
  go_wp2_with fail
  refine (Chain_any rs p oa cap _ (hr.below (by go_grown) (Nat.le_refl _)) hp).mono ?_
  rintro e w1 ⟨o5, k5, rfl, own5, hb1⟩
  rw [HC.out, HF.out]
  clear own5
  have B1 : Below w.heap.size w w1 := bcall (by go_grown) hb1 (by go_size)
  have s1 := B1.size
  have q1 : w.heap.size ≤ w1.heap.size := by have h := hb1.size; first | omega | (simp at h; omega)
  clear hb1
  go_wp2_with fail
  refine (delegates_any _).mono ?_
  rintro e w2 ⟨rfl, hb2⟩
  have B2 : Below w.heap.size w w2 := bcall (by go_grown) hb2 (by go_size)
  have s2 := B2.size
  have q2 : w1.heap.size + 1 ≤ w2.heap.size := by have h := hb2.size; first | omega | (simp at h; omega)
  obtain ⟨bb0, bb1, bbf, bbg, bbl⟩ := (Box2.new w1 (.int .i64 G.1) (.int .i64 G.2) 24).below hb2 (by go_size)
  clear hb2
  go_wp2_with fail
  refine (delegates_any _).mono ?_
  rintro e w3 ⟨rfl, hb3⟩
  have B3 : Below w.heap.size w w3 := bcall (by go_grown) hb3 (by go_size)
  have s3 := B3.size
  have q3 : w2.heap.size ≤ w3.heap.size := by have h := hb3.size; first | omega | (simp at h; omega)
  obtain ⟨bb0, bb1, bbf, bbg, bbl⟩ := (Box2.mk bb0 bb1 bbf bbg bbl).below hb3 (by go_size)
  clear hb3
  go_wp2_with fail
  go_ret
  exact ⟨ret_true (by simp), by go_grown⟩
set_option maxRecDepth 100000 in
set_option maxHeartbeats 1000000 in
theorem RolesChainsAreNested_ok (rs : List Pl.Role) (p : ByteArray) (oa : Option Addr) (cap : Nat) (w : World) (hr : RolesIn w oa cap rs) (hp : p.size ≤ 9223372036854775807) (hF : Pl.pathF rs p = (0, 0)) :
    Calls Try.prog 10 #[.slice oa rs.length cap, .string p] w fun e w' => e = .returned (.bool true) ∧ Below w.heap.size w w' := by
  obtain ⟨hlen, h12, hv⟩ := Pl.path_ok hF
  have HC := Lib.hid (show Pl.chainV rs p = Pl.chain rs p by rw [Pl.chainV, hF]; rfl)
  have HL := Lib.hid (fun (k : Nat) (h0 : 0 < k) (hk : k < (Pl.chain rs p).length) => Pl.chain_link (p := p) hlen hv h0 hk)
  have HR := Lib.hid ((Pl.roleC_zero (hv 0 (by omega))).1 rfl)
  have HZ := Lib.hid (Pl.chain_root rs p)
  have hcl1 := Pl.chain_len rs p
  have hcl2 : (Pl.chain rs p).length ≤ rs.length := by
    have := Pl.scan_len rs p (rs.length - 1) 1 0
    unfold Pl.chain
    rw [List.length_cons]
    omega
  have HF := Lib.hid hF
  clear hF hv
  obtain ⟨b, off, rfl, hlt, hat⟩ := hr.at (by omega)
  go_enter Try.func10, Try.ntmps10
  go_wp2_with fail
  refine (Chain_any rs p _ cap _ (hr.below (by go_grown) (Nat.le_refl _)) hp).mono ?_
  rintro e w1 ⟨o5, k5, rfl, own5, hb1⟩
  rw [HC.out] at *
  rw [HF.out]
  have sl5 := Sl.own own5
  clear own5
  have B1 : Below w.heap.size w w1 := bcall (by go_grown) hb1 (by go_size)
  have s1 := B1.size
  have q1 : w.heap.size ≤ w1.heap.size := by have h := hb1.size; first | omega | (simp at h; omega)
  clear hb1
  go_wp2_with fail
  refine (delegates_any _).mono ?_
  rintro e w2 ⟨rfl, hb2⟩
  have B2 : Below w.heap.size w w2 := bcall (by go_grown) hb2 (by go_size)
  have s2 := B2.size
  have q2 : w1.heap.size + 1 ≤ w2.heap.size := by have h := hb2.size; first | omega | (simp at h; omega)
  obtain ⟨ba0, ba1, baf, bag, bal⟩ := (Box2.new w1 (.int .i64 0) (.int .i64 0) 24).below hb2 (by go_size)
  replace sl5 := (sl5.below (by go_grown) (Nat.le_refl _)).below hb2 (Nat.le_refl _)
  clear hb2
  rcases sl5.mem with hz | ⟨g5, f5, rfl, hgl, hgc⟩
  · exfalso
    have hz : Pl.chain rs p = [] := by simpa [intVals] using hz
    rw [hz] at hcl1
    simp at hcl1
  have hcb := sl5.hcap
  have hcm := sl5.hmax
  unfold maxLen at hcm
  generalize Pl.chain rs p = C at *
  have hce := Lib.hid (fun (k : Nat) (hk : k < C.length) => show w2.cell? ⟨g5, f5 + k, none⟩ = some (.int .i64 (C.getD k 0)) by
    rw [hgc k _ (intVals_get C k hk), List.getD_eq_getElem?_getD, List.getElem?_eq_getElem hk]
    rfl)
  have hc0 : w2.cell? ⟨g5, f5, none⟩ = some (.int .i64 (C.getD 0 0)) := hce.out 0 (by omega)
  rw [HZ.out] at hc0
  clear hgc HC hr
  obtain ⟨n, hn⟩ : ∃ n, C.length = n := ⟨_, rfl⟩
  rw [hn] at hcl1 hcl2 hcb HL hce
  rw [hn]
  clear sl5
  have t0 : ((n : Int) == 0) = false := beq_eq_false_iff_ne.2 (by omega)
  have t0i : (0 : Int) < (n : Int) := by omega
  have t0n : 0 < n := by omega
  replace hn := Lib.hid hn
  go_wp2_with fail
  clear t0 hc0
  go_loopw [7] (fun v wr => ∃ k : Nat, k ≤ n ∧ v = .int .i64 (k : Int) ∧ Below w2.heap.size w2 wr) (fun v _ => n - (intOf v).toNat)
  case atStart => exact ⟨0, by omega, rfl, Below.refl _ _⟩
  case round =>
    obtain ⟨k, hk, rfl, hbw⟩ := hrel
    have hbw1 := bcall B2 hbw s2
    by_cases hlt2 : k < n
    · have e5 : (k : Int) < (n : Int) := by omega
      have e6 : (0 : Int) ≤ (k : Int) := by omega
      have e7 : decide (k < n) = true := by simp; omega
      by_cases h0 : 0 < k
      · obtain ⟨j, i, hj, hi, hjl, hij, hpar, hst, hst2⟩ := HL.out k h0 hlt2
        have hck : wr.cell? ⟨g5, f5 + k, none⟩ = some (.int .i64 (j : Int)) := by rw [hbw.cell (p := ⟨g5, f5 + k, none⟩) hgl, ← hj]; exact hce.out k hlt2
        have hck1 : wr.cell? ⟨g5, f5 + (k - 1), none⟩ = some (.int .i64 (i : Int)) := by rw [hbw.cell (p := ⟨g5, f5 + (k - 1), none⟩) hgl, ← hi]; exact hce.out (k - 1) (by omega)
        obtain ⟨ka, kc, R⟩ := hat j hjl
        obtain ⟨ka2, kc2, R2⟩ := hat i (by omega)
        obtain ⟨d0, d1, d2, d3, -, -, hpl⟩ := R.below hbw1 (Nat.le_refl _)
        obtain ⟨-, g1, -, -, -, -, hpl2⟩ := R2.below hbw1 (Nat.le_refl _)
        rw [hpar] at d0
        clear hat R R2 hj hi hpar
        generalize (rs.getD j Pl.Role.zero).pre = pj at *
        generalize (rs.getD i Pl.Role.zero).pre = pi at *
        have hin := Pl.inB_true.2 (show 0 ≤ (j : Int) ∧ (j : Int) ≤ (rs.length : Int) - 1 by omega)
        have n1 : (j : Int) < (rs.length : Int) := by omega
        have n2 : (0 : Int) ≤ (j : Int) := by omega
        have n3 : (i : Int) < (rs.length : Int) := by omega
        have n4 : (0 : Int) ≤ (i : Int) := by omega
        have n5 : decide (j ≤ i) = false := by simp; omega
        have n5' : decide ((j : Int) ≤ (i : Int)) = false := by simp; omega
        have n6 : decide (0 < k) = true := by simp; omega
        have n6' : decide ((0 : Int) < (k : Int)) = true := by simp; omega
        have ei : ((k : Int) - 1).toNat = k - 1 := by omega
        have e2 : IntKind.i64.wrap ((k : Int) - 1) = (k : Int) - 1 := IntWalk.i64_in _ (by omega)
        have e3 : (0 : Int) ≤ (k : Int) - 1 := by omega
        have e3' : (1 : Int) ≤ (k : Int) := by omega
        have e4 : (k : Int) - 1 < (n : Int) := by omega
        replace hst := Lib.hid hst
        replace hst2 := Lib.hid hst2
        go_wp2_with (first | (go_at_call 41; refine (Starts_val _ _ _ hst.out hp hpl).mono ?_; rintro e w' ⟨rfl, rfl⟩) | (go_at_call 18; refine (lin_any _ _ _ _).mono ?_; rintro e w' ⟨rfl, rfl⟩))
        go_quiet ((go_at_call 41; exact quiet_eq (Starts_val _ _ _ hst2.out hpl hpl2)))
        clear ei e2 e3 e4
        go_wp2_with fail
        go_roundw
        case rel => exact ⟨k + 1, hlt2, by go_num, below_drewN hbw _⟩
        case measure => simp [intOf]; omega
      · obtain rfl : k = 0 := by omega
        have hc0 := hce.out 0 (by omega)
        rw [HZ.out] at hc0
        have hck : wr.cell? ⟨g5, f5, none⟩ = some (.int .i64 0) := (hbw.cell (p := ⟨g5, f5, none⟩) hgl).trans hc0
        obtain ⟨ka, kc, R⟩ := hat 0 (by omega)
        obtain ⟨d0, d1, d2, d3, -, -, hpl⟩ := R.below hbw1 (Nat.le_refl _)
        have hst := Lib.hid (Pl.startsB_nil (p := p) HR.out.2)
        clear hat R hc0
        generalize (rs.getD 0 Pl.Role.zero).pre = pj at *
        generalize (rs.getD 0 Pl.Role.zero).parent = pa at *
        have hin := Pl.inB_true.2 (show 0 ≤ (0 : Int) ∧ (0 : Int) ≤ (rs.length : Int) - 1 by omega)
        have n1 : (0 : Int) < (rs.length : Int) := by omega
        have n1n : 0 < rs.length := by omega
        simp only [Nat.zero_mul, Nat.add_zero] at d0 d1 d2 d3
        go_wp2_with (first | (go_at_call 41; refine (Starts_val _ _ _ hst.out hp hpl).mono ?_; rintro e w' ⟨rfl, rfl⟩) | (go_at_call 18; refine (lin_any _ _ _ _).mono ?_; rintro e w' ⟨rfl, rfl⟩))
        go_quiet (fail)
        go_wp2_with fail
        go_roundw
        case rel => exact ⟨1, by omega, by go_num, below_drewN hbw _⟩
        case measure => simp [intOf]; omega
    · obtain rfl : k = n := by omega
      have t5 : decide ((k : Int) < (k : Int)) = false := by simp
      clear hat
      go_wp2_with fail
      go_ret
      exact ⟨rfl, by go_grown⟩
theorem RolesChainsAreNested_main (rs : List Pl.Role) (p : ByteArray) (oa : Option Addr) (cap : Nat) (w : World) (hr : RolesIn w oa cap rs) (hp : p.size ≤ 9223372036854775807) :
    Calls Try.prog 10 #[.slice oa rs.length cap, .string p] w fun e w' => e = .returned (.bool true) ∧ Below w.heap.size w w' := by
  rcases Pl.pathF_cases rs p with ⟨hF, -⟩ | hF
  · exact RolesChainsAreNested_ok rs p oa cap w hr hp hF
  · exact RolesChainsAreNested_bad rs p oa cap w hr hp hF
end Go.Proofs.Ytplcbhcbahiheaa
