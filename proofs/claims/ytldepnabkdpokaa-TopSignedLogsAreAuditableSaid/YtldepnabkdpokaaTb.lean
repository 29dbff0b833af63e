/- Contracts: the root of a log. -/
import Derived.Test.YtldepnabkdpokaaTa
import Derived.Test.YtldepnabkdpokaaKf
namespace Go.Proofs.Ytldepnabkdpokaa
open Go.RowKit

/-- A beginning of a slice, and the rest of it. -/
theorem Sl.take {w : World} {oa : Option Addr} {cap : Nat} {xs : List Int} {k : Nat} (h : Sl w oa xs.length cap 1 (intVals xs)) (hk : k ≤ xs.length) : Sl w oa (xs.take k).length cap 1 (intVals (xs.take k)) := by
  have hl : (xs.take k).length = k := by rw [List.length_take]; omega
  refine ⟨by rw [intVals_length]; omega, by have := h.hcap; omega, h.hmax, ?_⟩
  rcases h.mem with h0 | ⟨b, off, rfl, hlt, hc⟩
  · have : xs = [] := by simpa [intVals] using h0
    subst this
    left; simp [intVals]
  · right
    refine ⟨b, off, rfl, hlt, fun j u hu => hc j u ?_⟩
    unfold intVals at hu ⊢
    rw [List.map_take, List.getElem?_take] at hu
    split at hu
    · exact hu
    · cases hu
theorem Sl.drop {w : World} {b off cap : Nat} {xs : List Int} {k : Nat} (h : Sl w (some ⟨b, off, none⟩) xs.length cap 1 (intVals xs)) (hk : k ≤ xs.length) {oa : Option Addr} (ho : k < xs.length → oa = some ⟨b, off + k, none⟩) : Sl w oa (xs.drop k).length (cap - k) 1 (intVals (xs.drop k)) := by
  have hl : (xs.drop k).length = xs.length - k := List.length_drop
  have h1 := h.hcap
  have h2 := h.hmax
  refine ⟨by rw [intVals_length]; omega, by omega, by omega, ?_⟩
  by_cases hk2 : k < xs.length
  · rcases h.mem with h0 | ⟨b', off', hb, hlt, hc⟩
    · have : xs = [] := by simpa [intVals] using h0
      subst this
      simp at hk2
    · cases hb
      right
      refine ⟨b, off + k, ho hk2, hlt, fun j u hu => ?_⟩
      rw [Nat.add_assoc]
      refine hc (k + j) u ?_
      unfold intVals at hu ⊢
      rw [List.map_drop, List.getElem?_drop] at hu
      exact hu
  · left
    rw [List.drop_of_length_le (by omega)]
    rfl

set_option maxHeartbeats 400000 in
theorem root_any : ∀ (n : Nat) (xs : List Int) (oa : Option Addr) (cap : Nat) (w : World), xs.length = n → n ≤ 64 → (∀ x ∈ xs, Pl.isDigestB x = true) → Sl w oa xs.length cap 1 (intVals xs) →
    Calls Try.prog 37 #[.slice oa xs.length cap] w fun e w' => e = .returned (.int .i64 (Pl.rootS xs)) ∧ Below w.heap.size w w'
  | n, xs, oa, cap, w, hl, hn, hd, hs => by
    by_cases h1 : n ≤ 1
    · match xs, hl with
      | [], hl =>
        clear hl h1
        go_enter Try.func37, Try.ntmps37
        go_wp2
        go_ret
        exact ⟨rfl, Below.refl _ _⟩
      | [x], hl =>
        rcases hs.mem with h0 | ⟨b, off, rfl, hlt, hc⟩
        · simp [intVals] at h0
        · have hcell : w.cell? ⟨b, off, none⟩ = some (.int .i64 x) := hc 0 _ rfl
          clear hc hl h1 hs hd
          go_enter Try.func37, Try.ntmps37
          go_wp2
          go_ret
          exact ⟨rfl, Below.refl _ _⟩
      | x :: y :: l, hl => simp at hl; omega
    · rcases hs.mem with h0 | ⟨b, off, rfl, hlt, hc⟩
      · have : xs = [] := by simpa [intVals] using h0
        rw [this] at hl
        simp at hl
        omega
      · clear hc
        have h3 := Pl.splitN_lt (n := n) (by omega) hn
        have ih1 := root_any (Pl.splitN n) (xs.take (Pl.splitN n)) (some ⟨b, off, none⟩) cap
        have ih2 := root_any (n - Pl.splitN n) (xs.drop (Pl.splitN n)) (some ⟨b, off + Pl.splitN n, none⟩) (cap - Pl.splitN n)
        have st := hs.take (k := Pl.splitN n) (by omega)
        have sd := hs.drop (k := Pl.splitN n) (by omega) (oa := some ⟨b, off + Pl.splitN n, none⟩) (fun _ => rfl)
        have hr := Lib.hid (Pl.rootS_step xs (by omega) (by omega))
        have dt := Lib.hid (Pl.rootS_digest (fun x hx => hd x (List.mem_of_mem_take (i := Pl.splitN n) hx)))
        have dd := Lib.hid (Pl.rootS_digest (fun x hx => hd x (List.mem_of_mem_drop (i := Pl.splitN n) hx)))
        have lt : (xs.take (Pl.splitN n)).length = Pl.splitN n := by rw [List.length_take]; omega
        have ld : (xs.drop (Pl.splitN n)).length = n - Pl.splitN n := by rw [List.length_drop, hl]
        have ih1 := Lib.hid (fun w hw => ih1 w lt (by omega) (fun x hx => hd x (List.mem_of_mem_take hx)) hw)
        have ih2 := Lib.hid (fun w hw => ih2 w ld (by omega) (fun x hx => hd x (List.mem_of_mem_drop hx)) hw)
        have hcap := hs.hcap
        have hmax := hs.hmax
        unfold maxLen at hmax
        rw [hl] at hr hcap ⊢
        rw [lt] at ih1 st
        rw [ld] at ih2 sd
        generalize hK : Pl.splitN n = K at *
        have hKe := Lib.hid hK
        generalize hT : Pl.rootS (xs.take K) = T at *
        generalize hD : Pl.rootS (xs.drop K) = D at *
        clear hK hT hD lt ld hd hs
        have k1 : (K : Int) ≤ (n : Int) := by omega
        have k0 : (0 : Int) ≤ (K : Int) := by omega
        have n2 : (2 : Int) ≤ (n : Int) := by omega
        have t0 : ((n : Int) == 0) = false := by rw [beq_eq_false_iff_ne]; omega
        have t1 : ((n : Int) == 1) = false := by rw [beq_eq_false_iff_ne]; omega
        clear hl
        go_enter Try.func37, Try.ntmps37
        go_wp2_with fail
        refine (split_any n _ hn).mono ?_
        rintro e w' ⟨rfl, rfl⟩
        rw [hKe.out]
        go_wp2_with fail
        refine wp_region_ord [0, 1, 2, 4, 5, 6, 3, 7, 8, 9] (by kernel_rfl) (by kernel_rfl) ?_
        repeat (refine wpI_rd rfl rfl ?_; go_big_quiet_step (fail); refine wpQuiet_nil ?_)
        refine wpI_call (f := 37) (args := #[.slice (some ⟨b, off, none⟩) K cap]) rfl rfl rfl (by simp [go_sem]) ?_
        refine (ih1.out _ (st.below (Below.refl _ _).drew (Nat.le_refl _))).mono ?_
        rintro e w1 ⟨rfl, hb1⟩
        refine ⟨_, rfl, hb1, ?_⟩
        have B1 : Below w.heap.size w w1 := bcall (by go_grown) hb1 (by go_size)
        have s1 := B1.size
        try simp only [Act.put, List.setIfInBounds_toArray, List.set_cons_zero, List.set_cons_succ]
        repeat (refine wpI_rd rfl rfl ?_; go_big_quiet_step (fail); refine wpQuiet_nil ?_)
        refine wpI_call (f := 37) (args := #[.slice (some ⟨b, off + K, none⟩) (n - K) (cap - K)]) rfl rfl rfl (by simp [go_sem]) ?_
        refine (ih2.out _ (sd.below B1 (Nat.le_refl _))).mono ?_
        rintro e w2 ⟨rfl, hb2⟩
        refine ⟨_, rfl, hb2, ?_⟩
        have B2 : Below w.heap.size w w2 := bcall B1 hb2 s1
        have s2 := B2.size
        try simp only [Act.put, List.setIfInBounds_toArray, List.set_cons_zero, List.set_cons_succ]
        repeat (refine wpI_rd rfl rfl ?_; go_big_quiet_step (fail); refine wpQuiet_nil ?_)
        refine wpI_call (f := 52) (args := #[.int .i64 T, .int .i64 D]) rfl rfl rfl (by simp [go_sem]) ?_
        refine (tpair_any T D _ dt.out dd.out).mono ?_
        rintro e w3 ⟨rfl, hb3⟩
        refine ⟨_, rfl, hb3, ?_⟩
        have B3 : Below w.heap.size w w3 := bcall B2 hb3 s2
        try simp only [Act.put, List.setIfInBounds_toArray, List.set_cons_zero, List.set_cons_succ]
        repeat (refine wpI_rd rfl rfl ?_; go_big_quiet_step (fail); refine wpQuiet_nil ?_)
        refine wpI_nil ?_
        try simp only [Act.put, List.setIfInBounds_toArray, List.set_cons_zero, List.set_cons_succ]
        go_wp2_with fail
        go_ret
        exact ⟨ret_int hr.out.symm, B3⟩
termination_by n => n
decreasing_by all_goals omega
end Go.Proofs.Ytldepnabkdpokaa
