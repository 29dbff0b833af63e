/- Contracts of package roles: the error of a role, the fault of a tree. -/
import Derived.Test.YtplcbhcbahiheaaRa
import Derived.Test.YtplcbhcbahiheaaXf
namespace Go.Proofs.Ytplcbhcbahiheaa
open Go.RowKit

theorem HasPrefix_val (s p : ByteArray) (w : World) {v : Bool} (h : Pl.startsB s p = v) (hs : s.size ≤ 9223372036854775807) (hp : p.size ≤ 9223372036854775807) :
    Calls Try.prog 63 #[.string s, .string p] w fun e w' => e = .returned (.bool v) ∧ w = w' := by
  subst h
  exact HasPrefix_any s p w hs hp
theorem Starts_val (s p : ByteArray) (w : World) {v : Bool} (h : Pl.startsB s p = v) (hs : s.size ≤ 9223372036854775807) (hp : p.size ≤ 9223372036854775807) :
    Calls Try.prog 41 #[.string s, .string p] w fun e w' => e = .returned (.bool v) ∧ w = w' := by
  subst h
  exact Starts_any s p w hs hp
theorem ba_toList (s : ByteArray) : s.toList = s.data.toList := by
  have loop : ∀ (n i : Nat) (r : List UInt8), s.size - i = n → ByteArray.toList.loop s i r = r.reverse ++ s.data.toList.drop i := by
    intro n
    induction n with
    | zero =>
      intro i r h
      rw [ByteArray.toList.loop]
      have hs : s.size = s.data.toList.length := rfl
      rw [if_neg (by omega), List.drop_of_length_le (by omega), List.append_nil]
    | succ n ih =>
      intro i r h
      have hs : s.size = s.data.toList.length := rfl
      rw [ByteArray.toList.loop, if_pos (by omega), ih (i + 1) _ (by omega), List.reverse_cons, List.append_assoc]
      congr 1
      rw [List.drop_eq_getElem_cons (show i < s.data.toList.length by omega)]
      show s.get! i :: _ = _
      congr 1
      show s.data[i]! = _
      rw [getElem!_pos s.data i (by have : s.data.size = s.size := rfl; omega)]
      rfl
  unfold ByteArray.toList
  rw [loop s.size 0 [] rfl]
  rfl
namespace Pl
theorem roleC_par {rs : List Role} {i : Nat} (h : parBad (rs.getD i Role.zero) i = true) : roleC rs i = 3 := by unfold roleC; rw [if_pos h]
theorem roleC_pre {rs : List Role} {i : Nat} (h : parBad (rs.getD i Role.zero) i = false) (h2 : preBad rs (rs.getD i Role.zero) i = true) : roleC rs i = 12 := by unfold roleC; rw [if_neg (by rw [h]; decide), if_pos h2]
theorem roleC_thr {rs : List Role} {i : Nat} (h : parBad (rs.getD i Role.zero) i = false) (h2 : preBad rs (rs.getD i Role.zero) i = false) : roleC rs i = (thrF (rs.getD i Role.zero).keys (rs.getD i Role.zero).need).1 := by unfold roleC; rw [if_neg (by rw [h]; decide), if_neg (by rw [h2]; decide)]
theorem toList_ne {s : ByteArray} (h : s.size ≠ 0) : s.toList.isEmpty = false := by
  rw [List.isEmpty_eq_false_iff]
  intro h2
  have := congrArg List.length h2
  rw [ba_toList] at this
  simp at this
  subst this; exact h rfl
theorem toList_nil {s : ByteArray} (h : s.size = 0) : s.toList = [] := by
  rw [ba_toList]
  exact List.eq_nil_of_length_eq_zero (by simpa using h)
end Pl

theorem check_p0 (rs : List Pl.Role) (i : Nat) (b off cap : Nat) (w : World) (_ : b < w.heap.size) (_ : rs.length ≤ 9223372036854775807) (hi : i < rs.length) (hat : ∀ i, i < rs.length → ∃ ka kc, RoleAt w b (off + i * 4) (rs.getD i Pl.Role.zero) ka kc) (h0 : i = 0) (hp : (rs.getD i Pl.Role.zero).parent ≠ -1) :
    Calls Try.prog 61 #[.slice (some ⟨b, off, none⟩) rs.length cap, .int .i64 i] w fun e w' => e = .returned (.int .i64 (Pl.roleC rs i)) ∧ Below w.heap.size w w' := by
  obtain ⟨ka, kc, R⟩ := hat i hi
  have hi1 : (i : Int) < (rs.length : Int) := by omega
  have hi2 : (0 : Int) ≤ (i : Int) := by omega
  have E := Pl.roleC_par (rs := rs) (i := i) (by unfold Pl.parBad; simp [h0] at hp ⊢; simp [hp])
  generalize hr : rs.getD i Pl.Role.zero = r at *
  obtain ⟨pa, pr, ks, nd⟩ := r
  obtain ⟨c0, c1, c2, c3, hk, hkl, hpl⟩ := R
  replace hr := Lib.hid hr
  replace E := Lib.hid E
  have t1 : ((i : Int) == 0) = true := by simp [h0]
  have t2 : (pa == -1) = false := by simpa using hp
  have t3 : (pa != -1) = true := by simpa using hp
  clear hp h0 hat
  go_enter Try.func61, Try.ntmps61
  go_wp2_with fail
  go_ret
  exact ⟨ret_int E.out.symm, by first | (go_grown; done) | exact below_drewN (by go_grown) _⟩
theorem check_p1 (rs : List Pl.Role) (i : Nat) (b off cap : Nat) (w : World) (_ : b < w.heap.size) (_ : rs.length ≤ 9223372036854775807) (hi : i < rs.length) (hat : ∀ i, i < rs.length → ∃ ka kc, RoleAt w b (off + i * 4) (rs.getD i Pl.Role.zero) ka kc) (h0 : 0 < i) (hp : (rs.getD i Pl.Role.zero).parent < 0) :
    Calls Try.prog 61 #[.slice (some ⟨b, off, none⟩) rs.length cap, .int .i64 i] w fun e w' => e = .returned (.int .i64 (Pl.roleC rs i)) ∧ Below w.heap.size w w' := by
  obtain ⟨ka, kc, R⟩ := hat i hi
  have hi1 : (i : Int) < (rs.length : Int) := by omega
  have hi2 : (0 : Int) ≤ (i : Int) := by omega
  have E := Pl.roleC_par (rs := rs) (i := i) (by have h1 : decide (0 < (i : Int)) = true := (by simp; omega); unfold Pl.parBad; rw [h1, Pl.inB_false.2 (by omega)]; simp)
  generalize hr : rs.getD i Pl.Role.zero = r at *
  obtain ⟨pa, pr, ks, nd⟩ := r
  obtain ⟨c0, c1, c2, c3, hk, hkl, hpl⟩ := R
  replace hr := Lib.hid hr
  replace E := Lib.hid E
  have t1 : ((i : Int) == 0) = false := by simp; omega
  have t2 : decide (0 < i) = true := by simp; omega
  have t3 : decide (pa < 0) = true := by simpa using hp
  clear hp h0 hat
  go_enter Try.func61, Try.ntmps61
  go_wp2_with fail
  go_ret
  exact ⟨ret_int E.out.symm, by first | (go_grown; done) | exact below_drewN (by go_grown) _⟩
theorem check_p2 (rs : List Pl.Role) (i : Nat) (b off cap : Nat) (w : World) (_ : b < w.heap.size) (_ : rs.length ≤ 9223372036854775807) (hi : i < rs.length) (hat : ∀ i, i < rs.length → ∃ ka kc, RoleAt w b (off + i * 4) (rs.getD i Pl.Role.zero) ka kc) (h0 : 0 < i) (hp0 : 0 ≤ (rs.getD i Pl.Role.zero).parent) (hp : (i : Int) ≤ (rs.getD i Pl.Role.zero).parent) :
    Calls Try.prog 61 #[.slice (some ⟨b, off, none⟩) rs.length cap, .int .i64 i] w fun e w' => e = .returned (.int .i64 (Pl.roleC rs i)) ∧ Below w.heap.size w w' := by
  obtain ⟨ka, kc, R⟩ := hat i hi
  have hi1 : (i : Int) < (rs.length : Int) := by omega
  have hi2 : (0 : Int) ≤ (i : Int) := by omega
  have E := Pl.roleC_par (rs := rs) (i := i) (by have h1 : decide (0 < (i : Int)) = true := (by simp; omega); unfold Pl.parBad; rw [h1, Pl.inB_false.2 (by omega)]; simp)
  generalize hr : rs.getD i Pl.Role.zero = r at *
  obtain ⟨pa, pr, ks, nd⟩ := r
  obtain ⟨c0, c1, c2, c3, hk, hkl, hpl⟩ := R
  replace hr := Lib.hid hr
  replace E := Lib.hid E
  have t1 : ((i : Int) == 0) = false := by simp; omega
  have t2 : decide (0 < i) = true := by simp; omega
  have t3 : decide (pa < 0) = false := by simp; exact hp0
  have t4 : decide ((i : Int) ≤ pa) = true := by simpa using hp
  clear hp h0 hp0 hat
  go_enter Try.func61, Try.ntmps61
  go_wp2_with fail
  go_ret
  exact ⟨ret_int E.out.symm, by first | (go_grown; done) | exact below_drewN (by go_grown) _⟩
theorem check_q0 (rs : List Pl.Role) (i : Nat) (b off cap : Nat) (w : World) (_ : b < w.heap.size) (_ : rs.length ≤ 9223372036854775807) (hi : i < rs.length) (hat : ∀ i, i < rs.length → ∃ ka kc, RoleAt w b (off + i * 4) (rs.getD i Pl.Role.zero) ka kc) (h0 : i = 0) (hp : (rs.getD i Pl.Role.zero).parent = -1) (hq : (rs.getD i Pl.Role.zero).pre.size ≠ 0) :
    Calls Try.prog 61 #[.slice (some ⟨b, off, none⟩) rs.length cap, .int .i64 i] w fun e w' => e = .returned (.int .i64 (Pl.roleC rs i)) ∧ Below w.heap.size w w' := by
  obtain ⟨ka, kc, R⟩ := hat i hi
  have hi1 : (i : Int) < (rs.length : Int) := by omega
  have hi2 : (0 : Int) ≤ (i : Int) := by omega
  have E := Pl.roleC_pre (rs := rs) (i := i) (by unfold Pl.parBad; simp [h0] at hp ⊢; simp [hp]) (by unfold Pl.preBad; simp [h0] at hq ⊢; simp [hq])
  generalize hr : rs.getD i Pl.Role.zero = r at *
  obtain ⟨pa, pr, ks, nd⟩ := r
  obtain ⟨c0, c1, c2, c3, hk, hkl, hpl⟩ := R
  replace hr := Lib.hid hr
  replace E := Lib.hid E
  have t1 : ((i : Int) == 0) = true := by simp [h0]
  have t2 : (pa == -1) = true := by simpa using hp
  have t3 : (pa != -1) = false := by simpa using hp
  have t4 : decide (0 < i) = false := by simp; omega
  have t5 := Pl.toList_ne hq
  clear hp h0 hat
  go_enter Try.func61, Try.ntmps61
  go_wp2_with fail
  go_ret
  exact ⟨ret_int E.out.symm, by first | (go_grown; done) | exact below_drewN (by go_grown) _⟩
theorem check_v0 (rs : List Pl.Role) (i : Nat) (b off cap : Nat) (w : World) (_ : b < w.heap.size) (_ : rs.length ≤ 9223372036854775807) (hi : i < rs.length) (hat : ∀ i, i < rs.length → ∃ ka kc, RoleAt w b (off + i * 4) (rs.getD i Pl.Role.zero) ka kc) (h0 : i = 0) (hp : (rs.getD i Pl.Role.zero).parent = -1) (hq : (rs.getD i Pl.Role.zero).pre.size = 0) :
    Calls Try.prog 61 #[.slice (some ⟨b, off, none⟩) rs.length cap, .int .i64 i] w fun e w' => e = .returned (.int .i64 (Pl.roleC rs i)) ∧ Below w.heap.size w w' := by
  obtain ⟨ka, kc, R⟩ := hat i hi
  have hi1 : (i : Int) < (rs.length : Int) := by omega
  have hi2 : (0 : Int) ≤ (i : Int) := by omega
  have E := Pl.roleC_thr (rs := rs) (i := i) (by unfold Pl.parBad; simp [h0] at hp ⊢; simp [hp]) (by unfold Pl.preBad; simp [h0] at hq ⊢; simp [hq])
  generalize hr : rs.getD i Pl.Role.zero = r at *
  obtain ⟨pa, pr, ks, nd⟩ := r
  obtain ⟨c0, c1, c2, c3, hk, hkl, hpl⟩ := R
  replace hr := Lib.hid hr
  replace E := Lib.hid E
  have t1 : ((i : Int) == 0) = true := by simp [h0]
  have t2 : (pa == -1) = true := by simpa using hp
  have t3 : (pa != -1) = false := by simpa using hp
  have t4 : decide (0 < i) = false := by simp; omega
  have t5 : pr.toList.isEmpty = true := by rw [Pl.toList_nil hq]; rfl
  have t6 : decide ((60 : Int) < (pr.size : Int)) = false := by simp at hq ⊢; simp [hq]
  have t7 : pr.toList = [] := Pl.toList_nil hq
  clear hp h0 hat hq
  go_enter Try.func61, Try.ntmps61
  go_wp2_with fail
  go_quiet (fail)
  go_wp2_with fail
  refine (Validate_any ks nd ka kc _ (hk.below (by first | (go_grown; done) | exact below_drewN (by go_grown) _) (Nat.le_refl _)) hkl).mono ?_
  rintro e w1 ⟨rfl, hb1⟩
  have B1 : Below w.heap.size w w1 := bcall (by first | (go_grown; done) | exact below_drewN (by go_grown) _) hb1 (by simp)
  go_wp2_with fail
  go_ret
  exact ⟨ret_int E.out.symm, by first | (go_grown; done) | exact below_drewN (by go_grown) _⟩
theorem check_q1 (rs : List Pl.Role) (i : Nat) (b off cap : Nat) (w : World) (_ : b < w.heap.size) (_ : rs.length ≤ 9223372036854775807) (hi : i < rs.length) (hat : ∀ i, i < rs.length → ∃ ka kc, RoleAt w b (off + i * 4) (rs.getD i Pl.Role.zero) ka kc) (h0 : 0 < i) (hp0 : 0 ≤ (rs.getD i Pl.Role.zero).parent) (hp : (rs.getD i Pl.Role.zero).parent < (i : Int)) (hq : 60 < (rs.getD i Pl.Role.zero).pre.size) :
    Calls Try.prog 61 #[.slice (some ⟨b, off, none⟩) rs.length cap, .int .i64 i] w fun e w' => e = .returned (.int .i64 (Pl.roleC rs i)) ∧ Below w.heap.size w w' := by
  obtain ⟨ka, kc, R⟩ := hat i hi
  have hi1 : (i : Int) < (rs.length : Int) := by omega
  have hi2 : (0 : Int) ≤ (i : Int) := by omega
  have E := Pl.roleC_pre (rs := rs) (i := i) (by rw [Pl.parBad, show Pl.inB (rs.getD i Pl.Role.zero).parent 0 ((i : Int) - 1) = true from Pl.inB_true.2 (by omega)]; simp; omega) (by rw [Pl.preBad, show decide (60 < ((rs.getD i Pl.Role.zero).pre.size : Int)) = true from decide_eq_true (by omega)]; simp)
  generalize hr : rs.getD i Pl.Role.zero = r at *
  obtain ⟨pa, pr, ks, nd⟩ := r
  obtain ⟨c0, c1, c2, c3, hk, hkl, hpl⟩ := R
  replace hr := Lib.hid hr
  replace E := Lib.hid E
  have t1 : ((i : Int) == 0) = false := by simp; omega
  have t2 : decide (0 < i) = true := by simp; omega
  have t3 : decide (pa < 0) = false := by simp; exact hp0
  have t4 : decide ((i : Int) ≤ pa) = false := by simp; exact hp
  have t6 : decide ((60 : Int) < (pr.size : Int)) = true := by simp at hq ⊢; omega
  clear hp h0 hat hq hp0
  go_enter Try.func61, Try.ntmps61
  go_wp2_with fail
  go_ret
  exact ⟨ret_int E.out.symm, by first | (go_grown; done) | exact below_drewN (by go_grown) _⟩
theorem check_q2 (rs : List Pl.Role) (i : Nat) (b off cap : Nat) (w : World) (hlt : b < w.heap.size) (_ : rs.length ≤ 9223372036854775807) (hi : i < rs.length) (hat : ∀ i, i < rs.length → ∃ ka kc, RoleAt w b (off + i * 4) (rs.getD i Pl.Role.zero) ka kc) (h0 : 0 < i) (hp0 : 0 ≤ (rs.getD i Pl.Role.zero).parent) (hp : (rs.getD i Pl.Role.zero).parent < (i : Int)) (hq : (rs.getD i Pl.Role.zero).pre.size ≤ 60) (hst : Pl.startsB (rs.getD i Pl.Role.zero).pre (rs.getD (rs.getD i Pl.Role.zero).parent.toNat Pl.Role.zero).pre = false) :
    Calls Try.prog 61 #[.slice (some ⟨b, off, none⟩) rs.length cap, .int .i64 i] w fun e w' => e = .returned (.int .i64 (Pl.roleC rs i)) ∧ Below w.heap.size w w' := by
  obtain ⟨ka, kc, R⟩ := hat i hi
  have hi1 : (i : Int) < (rs.length : Int) := by omega
  have hi2 : (0 : Int) ≤ (i : Int) := by omega
  have h3 : decide (60 < ((rs.getD i Pl.Role.zero).pre.size : Int)) = false := decide_eq_false (by omega)
  have E := Pl.roleC_pre (rs := rs) (i := i) (by rw [Pl.parBad, show Pl.inB (rs.getD i Pl.Role.zero).parent 0 ((i : Int) - 1) = true from Pl.inB_true.2 (by omega)]; simp; omega) (by unfold Pl.preBad; rw [hst]; simp; omega)
  obtain ⟨p, hpe⟩ := Int.eq_ofNat_of_zero_le hp0
  obtain ⟨ka2, kc2, R2⟩ := hat p (by omega)
  have d1 := R2.c1
  have d2 := R2.pl
  clear R2
  rw [hpe] at hst
  have HST := Lib.hid hst
  clear hst h3
  have HPE := Lib.hid hpe
  generalize hr : rs.getD i Pl.Role.zero = r at *
  obtain ⟨pa, pr, ks, nd⟩ := r
  obtain ⟨c0, c1, c2, c3, hk, hkl, hpl⟩ := R
  replace hr := Lib.hid hr
  replace E := Lib.hid E
  obtain rfl : pa = (p : Int) := hpe
  clear HPE
  have hst := HST.out
  simp only [Int.toNat_natCast] at hst
  generalize (rs.getD p Pl.Role.zero).pre = pp at *
  have t0 : (p : Int) < (rs.length : Int) := by simp at hp; omega
  have t8 : (0 : Int) ≤ (p : Int) := by omega
  have t1 : ((i : Int) == 0) = false := by simp; omega
  have t2 : decide (0 < i) = true := by simp; omega
  have t2' : decide ((0 : Int) < (i : Int)) = true := by simp; omega
  have t4 : decide (i ≤ p) = false := by simp at hp ⊢; omega
  have t6 : decide ((60 : Int) < (pr.size : Int)) = false := by simp at hq ⊢; omega
  clear hp h0 hat hq hp0 HST
  replace hst := Lib.hid hst
  go_enter Try.func61, Try.ntmps61
  go_wp2_with fail
  go_quiet ((go_at_call 63; exact quiet_eq (HasPrefix_val _ _ _ hst.out hpl d2)))
  go_wp2_with fail
  go_ret
  exact ⟨ret_int E.out.symm, by first | (go_grown; done) | exact below_drewN (by go_grown) _⟩
theorem check_v1 (rs : List Pl.Role) (i : Nat) (b off cap : Nat) (w : World) (hlt : b < w.heap.size) (_ : rs.length ≤ 9223372036854775807) (hi : i < rs.length) (hat : ∀ i, i < rs.length → ∃ ka kc, RoleAt w b (off + i * 4) (rs.getD i Pl.Role.zero) ka kc) (h0 : 0 < i) (hp0 : 0 ≤ (rs.getD i Pl.Role.zero).parent) (hp : (rs.getD i Pl.Role.zero).parent < (i : Int)) (hq : (rs.getD i Pl.Role.zero).pre.size ≤ 60) (hst : Pl.startsB (rs.getD i Pl.Role.zero).pre (rs.getD (rs.getD i Pl.Role.zero).parent.toNat Pl.Role.zero).pre = true) :
    Calls Try.prog 61 #[.slice (some ⟨b, off, none⟩) rs.length cap, .int .i64 i] w fun e w' => e = .returned (.int .i64 (Pl.roleC rs i)) ∧ Below w.heap.size w w' := by
  obtain ⟨ka, kc, R⟩ := hat i hi
  have hi1 : (i : Int) < (rs.length : Int) := by omega
  have hi2 : (0 : Int) ≤ (i : Int) := by omega
  have h3 : decide (60 < ((rs.getD i Pl.Role.zero).pre.size : Int)) = false := decide_eq_false (by omega)
  have E := Pl.roleC_thr (rs := rs) (i := i) (by rw [Pl.parBad, show Pl.inB (rs.getD i Pl.Role.zero).parent 0 ((i : Int) - 1) = true from Pl.inB_true.2 (by omega)]; simp; omega) (by unfold Pl.preBad; rw [hst]; rw [h3]; simp; omega)
  obtain ⟨p, hpe⟩ := Int.eq_ofNat_of_zero_le hp0
  obtain ⟨ka2, kc2, R2⟩ := hat p (by omega)
  have d1 := R2.c1
  have d2 := R2.pl
  clear R2
  rw [hpe] at hst
  have HST := Lib.hid hst
  clear hst h3
  have HPE := Lib.hid hpe
  generalize hr : rs.getD i Pl.Role.zero = r at *
  obtain ⟨pa, pr, ks, nd⟩ := r
  obtain ⟨c0, c1, c2, c3, hk, hkl, hpl⟩ := R
  replace hr := Lib.hid hr
  replace E := Lib.hid E
  obtain rfl : pa = (p : Int) := hpe
  clear HPE
  have hst := HST.out
  simp only [Int.toNat_natCast] at hst
  generalize (rs.getD p Pl.Role.zero).pre = pp at *
  have t0 : (p : Int) < (rs.length : Int) := by simp at hp; omega
  have t8 : (0 : Int) ≤ (p : Int) := by omega
  have t1 : ((i : Int) == 0) = false := by simp; omega
  have t2 : decide (0 < i) = true := by simp; omega
  have t2' : decide ((0 : Int) < (i : Int)) = true := by simp; omega
  have t4 : decide (i ≤ p) = false := by simp at hp ⊢; omega
  have t6 : decide ((60 : Int) < (pr.size : Int)) = false := by simp at hq ⊢; omega
  clear hp h0 hat hq hp0 HST
  replace hst := Lib.hid hst
  go_enter Try.func61, Try.ntmps61
  go_wp2_with fail
  go_quiet ((go_at_call 63; exact quiet_eq (HasPrefix_val _ _ _ hst.out hpl d2)))
  go_wp2_with fail
  refine (Validate_any ks nd ka kc _ (hk.below (by first | (go_grown; done) | exact below_drewN (by go_grown) _) (Nat.le_refl _)) hkl).mono ?_
  rintro e w1 ⟨rfl, hb1⟩
  have B1 : Below w.heap.size w w1 := bcall (by first | (go_grown; done) | exact below_drewN (by go_grown) _) hb1 (by simp)
  go_wp2_with fail
  go_ret
  exact ⟨ret_int E.out.symm, by first | (go_grown; done) | exact below_drewN (by go_grown) _⟩
theorem check_any (rs : List Pl.Role) (i : Nat) (oa : Option Addr) (cap : Nat) (w : World) (hr : RolesIn w oa cap rs) (hi : i < rs.length) :
    Calls Try.prog 61 #[.slice oa rs.length cap, .int .i64 i] w fun e w' => e = .returned (.int .i64 (Pl.roleC rs i)) ∧ Below w.heap.size w w' := by
  have hm := hr.len
  obtain ⟨b, off, rfl, hlt, hat⟩ := hr.at (by omega)
  by_cases h0 : i = 0
  · by_cases hp : (rs.getD i Pl.Role.zero).parent = -1
    · by_cases hq : (rs.getD i Pl.Role.zero).pre.size = 0
      · exact check_v0 rs i b off cap w hlt hm hi hat h0 hp hq
      · exact check_q0 rs i b off cap w hlt hm hi hat h0 hp hq
    · exact check_p0 rs i b off cap w hlt hm hi hat h0 hp
  · have h0 : 0 < i := by omega
    by_cases hp : (rs.getD i Pl.Role.zero).parent < 0
    · exact check_p1 rs i b off cap w hlt hm hi hat h0 hp
    · by_cases hp2 : (i : Int) ≤ (rs.getD i Pl.Role.zero).parent
      · exact check_p2 rs i b off cap w hlt hm hi hat h0 (by omega) hp2
      · by_cases hq : 60 < (rs.getD i Pl.Role.zero).pre.size
        · exact check_q1 rs i b off cap w hlt hm hi hat h0 (by omega) (by omega) hq
        · cases hst : Pl.startsB (rs.getD i Pl.Role.zero).pre (rs.getD (rs.getD i Pl.Role.zero).parent.toNat Pl.Role.zero).pre with
          | false => exact check_q2 rs i b off cap w hlt hm hi hat h0 (by omega) (by omega) (by omega) hst
          | true => exact check_v1 rs i b off cap w hlt hm hi hat h0 (by omega) (by omega) (by omega) hst
end Go.Proofs.Ytplcbhcbahiheaa
