/- Contracts of the reference's keyring: times, owners, validity. -/
import Derived.Test.YtkhkijpkgogncaaVa
namespace Go.Proofs.Ytkhkijpkgogncaa
open Go.RowKit

namespace Pl
def NoEv (l : List Ev) (p : Ev → Bool) (j : Nat) : Prop := ∀ i (h : i < l.length), i < j → p l[i] = false
theorem NoEv.zero (l : List Ev) (p : Ev → Bool) : NoEv l p 0 := fun _ _ h => absurd h (by omega)
theorem NoEv.succ {l : List Ev} {p : Ev → Bool} {j : Nat} (h : NoEv l p j) (hj : j < l.length) (hp : p l[j] = false) : NoEv l p (j + 1) := fun i hi hij => by
  by_cases e : i = j
  · subst e; exact hp
  · exact h i hi (by omega)
theorem NoEv.hit {l : List Ev} {p : Ev → Bool} {j : Nat} (h : NoEv l p j) (hj : j < l.length) (hp : p l[j] = true) : l.find? p = some l[j] := by
  rw [List.find?_eq_some_iff_getElem]
  exact ⟨hp, j, hj, rfl, fun i hi => by rw [h i (by omega) hi]; rfl⟩
theorem NoEv.none {l : List Ev} {p : Ev → Bool} (h : NoEv l p l.length) : l.find? p = Option.none := by
  rw [List.find?_eq_none]
  intro x hx
  obtain ⟨i, hi, rfl⟩ := List.mem_iff_getElem.1 hx
  rw [h i hi hi]
  decide
end Pl
theorem KeyTime_any (l : List Pl.Ev) (n : Nat) (hn : l.length = n) (k kd : Int) (oa : Option Addr) (cap : Nat) (w : World) (hs : Sl w oa l.length cap 4 (quadVals l)) (hm : l.length ≤ 9223372036854775807) :
    Calls Try.prog 40 #[.slice oa n cap, .int .i64 k, .int .i64 kd] w fun e w' => e = .returned (.int .i64 (Pl.keyTime l k kd)) ∧ w = w' := by
  subst hn
  obtain ⟨T, hT⟩ : ∃ x, Pl.keyTime l k kd = x := ⟨_, rfl⟩
  rw [hT]
  have HT := Lib.hid hT
  clear hT
  go_enter Try.func40, Try.ntmps40
  go_wp2
  go_loop [7] (fun i => ∃ j : Nat, j ≤ l.length ∧ i = .int .i64 (j : Int) ∧ Hid (Pl.NoEv l (Pl.isEv k kd) j)) (fun i => l.length - (intOf i).toNat)
  case atStart => exact ⟨0, Nat.zero_le _, rfl, Lib.hid (Pl.NoEv.zero _ _)⟩
  case round =>
    obtain ⟨j, hj, rfl, hne⟩ := hrel
    by_cases hlt : j < l.length
    · obtain ⟨b, off, rfl, hb, c0, c1, c2, c3⟩ := hs.quad hlt
      have hit := Lib.hid (fun h => hne.out.hit hlt h)
      have miss := Lib.hid (fun h => hne.out.succ hlt h)
      have t1 : decide (j < l.length) = true := by simp; omega
      have t2 : (j : Int) < (l.length : Int) := by omega
      obtain ⟨⟨kd', ky, us, tm⟩, he⟩ : ∃ e, l[j] = e := ⟨_, rfl⟩
      rw [he] at c0 c1 c2 c3 hit miss
      simp only at c0 c1 c2 c3
      clear he
      cases h1 : (kd' == kd) with
      | false =>
        have E := Lib.hid (miss.out (by simp only [Pl.isEv]; rw [h1]; rfl))
        clear hit miss
        go_wp2
        go_round
        case rel => exact ⟨j + 1, hlt, by go_num, E⟩
        case measure => simp [intOf]; omega
      | true =>
        cases h2 : (ky == k) with
        | false =>
          have E := Lib.hid (miss.out (by simp only [Pl.isEv]; rw [h1, h2]; rfl))
          clear hit miss
          go_wp2
          go_round
          case rel => exact ⟨j + 1, hlt, by go_num, E⟩
          case measure => simp [intOf]; omega
        | true =>
          have E := Lib.hid (show T = tm by rw [← HT.out]; unfold Pl.keyTime; rw [hit.out (by simp only [Pl.isEv]; rw [h1, h2]; rfl)])
          clear hit miss
          go_wp2
          go_ret
          exact ⟨ret_int E.out.symm, rfl⟩
    · obtain rfl : j = l.length := by omega
      have E := Lib.hid (show T = -1 by rw [← HT.out]; unfold Pl.keyTime; rw [hne.out.none])
      have t1 : decide (l.length < l.length) = false := by simp
      go_wp2
      go_ret
      exact ⟨ret_int E.out.symm, rfl⟩
theorem KeyOwner_any (l : List Pl.Ev) (n : Nat) (hn : l.length = n) (k : Int) (oa : Option Addr) (cap : Nat) (w : World) (hs : Sl w oa l.length cap 4 (quadVals l)) (hm : l.length ≤ 9223372036854775807) :
    Calls Try.prog 36 #[.slice oa n cap, .int .i64 k] w fun e w' => e = .returned (.int .i64 (Pl.keyOwner l k)) ∧ w = w' := by
  subst hn
  obtain ⟨T, hT⟩ : ∃ x, Pl.keyOwner l k = x := ⟨_, rfl⟩
  rw [hT]
  have HT := Lib.hid hT
  clear hT
  go_enter Try.func36, Try.ntmps36
  go_wp2
  go_loop [5] (fun i => ∃ j : Nat, j ≤ l.length ∧ i = .int .i64 (j : Int) ∧ Hid (Pl.NoEv l (Pl.isEv k 1) j)) (fun i => l.length - (intOf i).toNat)
  case atStart => exact ⟨0, Nat.zero_le _, rfl, Lib.hid (Pl.NoEv.zero _ _)⟩
  case round =>
    obtain ⟨j, hj, rfl, hne⟩ := hrel
    by_cases hlt : j < l.length
    · obtain ⟨b, off, rfl, hb, c0, c1, c2, c3⟩ := hs.quad hlt
      have hit := Lib.hid (fun h => hne.out.hit hlt h)
      have miss := Lib.hid (fun h => hne.out.succ hlt h)
      have t1 : decide (j < l.length) = true := by simp; omega
      have t2 : (j : Int) < (l.length : Int) := by omega
      obtain ⟨⟨kd', ky, us, tm⟩, he⟩ : ∃ e, l[j] = e := ⟨_, rfl⟩
      rw [he] at c0 c1 c2 c3 hit miss
      simp only at c0 c1 c2 c3
      clear he
      cases h1 : (kd' == 1) with
      | false =>
        have E := Lib.hid (miss.out (by simp only [Pl.isEv]; rw [h1]; rfl))
        clear hit miss
        go_wp2
        go_round
        case rel => exact ⟨j + 1, hlt, by go_num, E⟩
        case measure => simp [intOf]; omega
      | true =>
        cases h2 : (ky == k) with
        | false =>
          have E := Lib.hid (miss.out (by simp only [Pl.isEv]; rw [h1, h2]; rfl))
          clear hit miss
          go_wp2
          go_round
          case rel => exact ⟨j + 1, hlt, by go_num, E⟩
          case measure => simp [intOf]; omega
        | true =>
          have E := Lib.hid (show T = us by rw [← HT.out]; unfold Pl.keyOwner; rw [hit.out (by simp only [Pl.isEv]; rw [h1, h2]; rfl)])
          clear hit miss
          go_wp2
          go_ret
          exact ⟨ret_int E.out.symm, rfl⟩
    · obtain rfl : j = l.length := by omega
      have E := Lib.hid (show T = -1 by rw [← HT.out]; unfold Pl.keyOwner; rw [hne.out.none])
      have t1 : decide (l.length < l.length) = false := by simp
      go_wp2
      go_ret
      exact ⟨ret_int E.out.symm, rfl⟩
theorem KeyValid_any (l : List Pl.Ev) (k t : Int) (oa : Option Addr) (cap : Nat) (w : World) (hs : Sl w oa l.length cap 4 (quadVals l)) (hm : l.length ≤ 9223372036854775807) :
    Calls Try.prog 35 #[.slice oa l.length cap, .int .i64 k, .int .i64 t] w fun e w' => e = .returned (.bool (Pl.kvB l k t)) ∧ w = w' := by
  obtain ⟨T, hT⟩ : ∃ x, Pl.kvB l k t = x := ⟨_, rfl⟩
  rw [hT]
  unfold Pl.kvB at hT
  obtain ⟨a, ha⟩ : ∃ x, Pl.keyTime l k 1 = x := ⟨_, rfl⟩
  obtain ⟨r, hr⟩ : ∃ x, Pl.keyTime l k 2 = x := ⟨_, rfl⟩
  rw [ha, hr] at hT
  have HA := Lib.hid ha
  have HR := Lib.hid hr
  have HT := Lib.hid hT
  clear ha hr hT
  cases h1 : decide (0 ≤ a) with
  | false =>
    have E := Lib.hid (show T = false by rw [← HT.out, h1, Bool.false_and, Bool.false_and]; try rfl)
    clear HT
    go_enter Try.func35, Try.ntmps35
    go_wp2_with fail
    refine (KeyTime_any l _ rfl k 1 oa cap _ hs hm).mono ?_
    rw [HA.out]
    rintro e w' ⟨rfl, rfl⟩
    go_wp2_with fail
    refine (KeyTime_any l _ rfl k 2 oa cap _ hs hm).mono ?_
    rw [HR.out]
    rintro e w' ⟨rfl, rfl⟩
    go_wp2_with fail
    go_ret
    exact ⟨ret_bool E.out.symm, rfl⟩
  | true =>
    cases h2 : decide (a ≤ t) with
    | false =>
      have E := Lib.hid (show T = false by rw [← HT.out, h1, h2, Bool.true_and, Bool.false_and]; try rfl)
      clear HT
      go_enter Try.func35, Try.ntmps35
      go_wp2_with fail
      refine (KeyTime_any l _ rfl k 1 oa cap _ hs hm).mono ?_
      rw [HA.out]
      rintro e w' ⟨rfl, rfl⟩
      go_wp2_with fail
      refine (KeyTime_any l _ rfl k 2 oa cap _ hs hm).mono ?_
      rw [HR.out]
      rintro e w' ⟨rfl, rfl⟩
      go_wp2_with fail
      go_ret
      exact ⟨ret_bool E.out.symm, rfl⟩
    | true =>
      cases h3 : decide (r < 0) with
      | true =>
        have E := Lib.hid (show T = true by rw [← HT.out, h1, h2, h3, Bool.true_and, Bool.true_or]; try rfl)
        clear HT
        go_enter Try.func35, Try.ntmps35
        go_wp2_with fail
        refine (KeyTime_any l _ rfl k 1 oa cap _ hs hm).mono ?_
        rw [HA.out]
        rintro e w' ⟨rfl, rfl⟩
        go_wp2_with fail
        refine (KeyTime_any l _ rfl k 2 oa cap _ hs hm).mono ?_
        rw [HR.out]
        rintro e w' ⟨rfl, rfl⟩
        go_wp2_with fail
        go_ret
        exact ⟨ret_bool E.out.symm, rfl⟩
      | false =>
        cases h4 : decide (t < r) with
        | true =>
          have E := Lib.hid (show T = true by rw [← HT.out, h1, h2, h3, h4]; try rfl)
          clear HT
          go_enter Try.func35, Try.ntmps35
          go_wp2_with fail
          refine (KeyTime_any l _ rfl k 1 oa cap _ hs hm).mono ?_
          rw [HA.out]
          rintro e w' ⟨rfl, rfl⟩
          go_wp2_with fail
          refine (KeyTime_any l _ rfl k 2 oa cap _ hs hm).mono ?_
          rw [HR.out]
          rintro e w' ⟨rfl, rfl⟩
          go_wp2_with fail
          go_ret
          exact ⟨ret_bool E.out.symm, rfl⟩
        | false =>
          have E := Lib.hid (show T = false by rw [← HT.out, h1, h2, h3, h4]; try rfl)
          clear HT
          go_enter Try.func35, Try.ntmps35
          go_wp2_with fail
          refine (KeyTime_any l _ rfl k 1 oa cap _ hs hm).mono ?_
          rw [HA.out]
          rintro e w' ⟨rfl, rfl⟩
          go_wp2_with fail
          refine (KeyTime_any l _ rfl k 2 oa cap _ hs hm).mono ?_
          rw [HR.out]
          rintro e w' ⟨rfl, rfl⟩
          go_wp2_with fail
          go_ret
          exact ⟨ret_bool E.out.symm, rfl⟩
end Go.Proofs.Ytkhkijpkgogncaa
