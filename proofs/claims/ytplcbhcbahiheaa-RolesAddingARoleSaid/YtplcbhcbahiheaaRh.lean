/- The law RolesDelegationIsFollowed returns true. -/
import Derived.Test.YtplcbhcbahiheaaRg
namespace Go.Proofs.Ytplcbhcbahiheaa
open Go.RowKit

namespace Pl
theorem lastD_mem {l : List Int} {d : Int} : l.getLastD d = d ∧ l = [] ∨ l.getLastD d ∈ l := by
  cases l with
  | nil => exact .inl ⟨rfl, rfl⟩
  | cons a l => exact .inr (by rw [List.getLastD_eq_getLast?]; rw [List.getLast?_eq_some_getLast (by simp)]; exact List.getLast_mem _)
theorem lastD_cons (a d : Int) (l : List Int) : (a :: l).getLastD d = l.getLastD a := by cases l <;> rfl
theorem scan_end (rs : List Role) (p : ByteArray) : ∀ (n k : Nat) (last : Int) (i : Nat), k ≤ i → i < k + n → (scan rs p n k last).getLastD last < (i : Int) → hit rs p i ((scan rs p n k last).getLastD last) = false
  | 0, _, _, i, h1, h2, _ => by omega
  | n + 1, k, last, i, h1, h2, h3 => by
    rw [scan] at h3 ⊢
    split
    · rename_i hh
      rw [if_pos hh, lastD_cons] at h3
      rw [lastD_cons]
      by_cases hi : i = k
      · exfalso
        subst hi
        rcases lastD_mem (l := scan rs p n (i + 1) (i : Int)) (d := (i : Int)) with ⟨h, _⟩ | h
        · omega
        · obtain ⟨j, e, h4, _⟩ := scan_mem rs p _ _ _ _ h
          omega
      · exact scan_end rs p n (k + 1) k i (by omega) (by omega) h3
    · rename_i hh
      rw [if_neg hh] at h3
      by_cases hi : i = k
      · subst hi
        rcases lastD_mem (l := scan rs p n (i + 1) last) (d := last) with ⟨h, _⟩ | h
        · rw [h]; simpa using hh
        · obtain ⟨j, e, h4, _⟩ := scan_mem rs p _ _ _ _ h
          omega
      · exact scan_end rs p n (k + 1) last i (by omega) (by omega) h3
theorem chain_last (rs : List Role) (p : ByteArray) : (chain rs p).getD ((chain rs p).length - 1) 0 = (scan rs p (rs.length - 1) 1 0).getLastD 0 := by
  unfold chain
  generalize scan rs p (rs.length - 1) 1 0 = l
  rw [← lastD_cons 0 0 l, List.getLastD_eq_getLast?, List.getLast?_eq_getElem?, List.getD_eq_getElem?_getD]
theorem of_end {rs : List Role} {p : ByteArray} (hF : pathF rs p = (0, 0)) {j : Nat} (hj : ofRole rs p = (j : Int)) {i : Nat} (h1 : j < i) (h2 : i < rs.length) : hit rs p i (j : Int) = false := by
  have e : (scan rs p (rs.length - 1) 1 0).getLastD 0 = (j : Int) := by rw [← chain_last, ← hj, ofRole, hF]; rfl
  have := scan_end rs p (rs.length - 1) 1 0 i (by omega) (by omega) (by omega)
  rwa [e] at this
end Pl
theorem RolesDelegationIsFollowed_bad (rs : List Pl.Role) (p : ByteArray) (oa : Option Addr) (cap : Nat) (w : World) (hr : RolesIn w oa cap rs) (hp : p.size ≤ 9223372036854775807) (hF : (Pl.pathF rs p).1 ≠ 0) :
    Calls Try.prog 11 #[.slice oa rs.length cap, .string p] w fun e w' => e = .returned (.bool true) ∧ Below w.heap.size w w' := by
  have HO := Lib.hid (show Pl.ofRole rs p = 0 by rw [Pl.ofRole, if_neg hF])
  generalize hM : Pl.pathF rs p = G at *
  have HF := Lib.hid hM
  have u1 : (G.1 == 0) = false := by simp [hF]
  have u2 : (G.1 != 0) = true := by simp [hF]
  clear hM hF
  go_enter Try.func11, Try.ntmps11
  go_wp2_with fail
  refine (Of_any rs p oa cap _ (hr.below (by go_grown) (Nat.le_refl _)) hp).mono ?_
  rw [HO.out, HF.out]
  rintro e w1 ⟨rfl, hb1⟩
  have B1 : Below w.heap.size w w1 := bcall (by go_grown) hb1 (by go_size)
  have s1 := B1.size
  have q1 : w.heap.size ≤ w1.heap.size := by have h := hb1.size; first | omega | (simp at h; omega)
  clear hb1
  go_wp2_with fail
  refine (delegates_any _).mono ?_
  rintro e w2 ⟨rfl, hb2⟩
  have B2 : Below w.heap.size w w2 := bcall (by go_grown) hb2 (by go_size)
  have s2 := B2.size
  have q2 : w1.heap.size + 1 ≤ w2.heap.size := by have h := hb2.size; first | omega | (simp at h; omega)
  obtain ⟨bb0, bb1, bbf, bbg, bbl⟩ := (Box2.new w1 (.int .i64 G.1) (.int .i64 G.2) 24).below hb2 (by go_size)
  clear hb2
  go_wp2_with fail
  refine (delegates_any _).mono ?_
  rintro e w3 ⟨rfl, hb3⟩
  have B3 : Below w.heap.size w w3 := bcall (by go_grown) hb3 (by go_size)
  have s3 := B3.size
  have q3 : w2.heap.size ≤ w3.heap.size := by have h := hb3.size; first | omega | (simp at h; omega)
  obtain ⟨bb0, bb1, bbf, bbg, bbl⟩ := (Box2.mk bb0 bb1 bbf bbg bbl).below hb3 (by go_size)
  clear hb3
  go_wp2_with fail
  go_ret
  exact ⟨ret_true (by simp), by go_grown⟩
set_option maxHeartbeats 400000 in
theorem RolesDelegationIsFollowed_ok (rs : List Pl.Role) (p : ByteArray) (oa : Option Addr) (cap : Nat) (w : World) (hr : RolesIn w oa cap rs) (hp : p.size ≤ 9223372036854775807) (hF : Pl.pathF rs p = (0, 0)) :
    Calls Try.prog 11 #[.slice oa rs.length cap, .string p] w fun e w' => e = .returned (.bool true) ∧ Below w.heap.size w w' := by
  obtain ⟨hlen, h12, -⟩ := Pl.path_ok hF
  obtain ⟨j, hj, hjl⟩ := Pl.ofRole_nat hlen hF
  have HE := Lib.hid (fun (i : Nat) (h1 : j < i) (h2 : i < rs.length) => Pl.of_end hF hj h1 h2)
  have HF := Lib.hid hF
  replace hj := Lib.hid hj
  clear hF
  obtain ⟨b, off, rfl, hlt, hat⟩ := hr.at (by omega)
  have hin := Pl.inB_true.2 (show 0 ≤ (j : Int) ∧ (j : Int) ≤ (rs.length : Int) - 1 by omega)
  go_enter Try.func11, Try.ntmps11
  go_wp2_with fail
  refine (Of_any rs p _ cap _ (hr.below (by go_grown) (Nat.le_refl _)) hp).mono ?_
  rw [hj.out, HF.out]
  rintro e w1 ⟨rfl, hb1⟩
  have B1 : Below w.heap.size w w1 := bcall (by go_grown) hb1 (by go_size)
  have s1 := B1.size
  have q1 : w.heap.size ≤ w1.heap.size := by have h := hb1.size; first | omega | (simp at h; omega)
  clear hb1
  go_wp2_with fail
  refine (delegates_any _).mono ?_
  rintro e w2 ⟨rfl, hb2⟩
  have B2 : Below w.heap.size w w2 := bcall (by go_grown) hb2 (by go_size)
  have s2 := B2.size
  have q2 : w1.heap.size + 1 ≤ w2.heap.size := by have h := hb2.size; first | omega | (simp at h; omega)
  obtain ⟨ba0, ba1, baf, bag, bal⟩ := (Box2.new w1 (.int .i64 0) (.int .i64 0) 24).below hb2 (by go_size)
  clear hb2
  go_wp2_with (go_at_call 18; refine (lin_any _ _ _ _).mono ?_; rintro e w' ⟨rfl, rfl⟩)
  clear hr
  go_loop [7] (fun v => ∃ k : Nat, j < k ∧ k ≤ rs.length ∧ v = .int .i64 (k : Int)) (fun v => rs.length - (intOf v).toNat)
  case atStart => exact ⟨j + 1, by omega, by omega, by go_num⟩
  case round =>
    obtain ⟨k, hik, hk, rfl⟩ := hrel
    by_cases hlt2 : k < rs.length
    · obtain ⟨ka, kc, R⟩ := hat k hlt2
      obtain ⟨d0, d1, d2, d3, hkS, hkl, hpl⟩ := R.below B2 (Nat.le_refl _)
      have HH : ((rs.getD k Pl.Role.zero).parent == (j : Int) && Pl.startsB p (rs.getD k Pl.Role.zero).pre) = false := HE.out k hik hlt2
      clear hat R hin
      generalize rs.getD k Pl.Role.zero = r at *
      obtain ⟨pa, pr, ks, nd⟩ := r
      simp only at d0 d1 d2 d3 hkS hkl hpl
      replace HH := Lib.hid HH
      have e5 : (k : Int) < (rs.length : Int) := by omega
      have e6 : (0 : Int) ≤ (k : Int) := by omega
      have e7 : decide (k < rs.length) = true := by simp; omega
      by_cases he : pa = (j : Int)
      · have t3 : (pa == (j : Int)) = true := by simp [he]
        have hs := Lib.hid (show Pl.startsB p pr = false by have := HH.out; rwa [t3, Bool.true_and] at this)
        clear he HH
        go_wp2_with (go_at_call 41; refine (Starts_val _ _ _ hs.out hp hpl).mono ?_; rintro e w' ⟨rfl, rfl⟩)
        go_round
        case rel => exact ⟨k + 1, by omega, hlt2, by go_num⟩
        case measure => simp [intOf]; omega
      · have t3 : (pa == (j : Int)) = false := by simp [he]
        clear he HH
        go_wp2_with fail
        go_round
        case rel => exact ⟨k + 1, by omega, hlt2, by go_num⟩
        case measure => simp [intOf]; omega
    · obtain rfl : k = rs.length := by omega
      have t5 : decide ((rs.length : Int) < (rs.length : Int)) = false := by simp
      clear hat hin
      go_wp2_with fail
      go_ret
      exact ⟨rfl, by go_grown⟩
theorem RolesDelegationIsFollowed_main (rs : List Pl.Role) (p : ByteArray) (oa : Option Addr) (cap : Nat) (w : World) (hr : RolesIn w oa cap rs) (hp : p.size ≤ 9223372036854775807) :
    Calls Try.prog 11 #[.slice oa rs.length cap, .string p] w fun e w' => e = .returned (.bool true) ∧ Below w.heap.size w w' := by
  rcases Pl.pathF_cases rs p with ⟨hF, -⟩ | hF
  · exact RolesDelegationIsFollowed_ok rs p oa cap w hr hp hF
  · exact RolesDelegationIsFollowed_bad rs p oa cap w hr hp hF
end Go.Proofs.Ytplcbhcbahiheaa
