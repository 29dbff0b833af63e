/- Contracts: insertion into an increasing list, by the reference and by the library. -/
import Derived.Test.YtkhkijpkgogncaaUc
import Derived.Test.YtkhkijpkgogncaaSa
namespace Go.Proofs.Ytkhkijpkgogncaa
open Go.RowKit

/-- The rest of a slice. -/
theorem Sl.dropK {w : World} {oa : Option Addr} {cap : Nat} {xs : List Int} {k : Nat} (h : Sl w oa xs.length cap 1 (intVals xs)) (hk : k ≤ xs.length) {ob : Option Addr} (ho : k < xs.length → ∃ b off, oa = some ⟨b, off, none⟩ ∧ ob = some ⟨b, off + k, none⟩) : Sl w ob (xs.length - k) (cap - k) 1 (intVals (xs.drop k)) := by
  have hl : (xs.drop k).length = xs.length - k := List.length_drop
  have h1 := h.hcap
  have h2 := h.hmax
  refine ⟨by rw [intVals_length]; omega, by omega, by omega, ?_⟩
  by_cases hk2 : k < xs.length
  · rcases h.mem with h0 | ⟨b', off', hb, hlt, hc⟩
    · have : xs = [] := by simpa [intVals] using h0
      subst this
      simp at hk2
    · obtain ⟨b, off, h3, h4⟩ := ho hk2
      rw [hb] at h3
      obtain ⟨rfl, rfl⟩ : b' = b ∧ off' = off := by simpa using h3
      right
      refine ⟨b', off' + k, h4, hlt, fun j u hu => ?_⟩
      rw [Nat.add_assoc]
      refine hc (k + j) u ?_
      unfold intVals at hu ⊢
      rw [List.map_drop, List.getElem?_drop] at hu
      exact hu
  · left
    rw [List.drop_of_length_le (by omega)]
    rfl
namespace Pl
theorem while_upto {p : Int → Bool} : ∀ {xs : List Int} {k : Nat}, UpTo p xs k → k ≤ xs.length → (∀ h : k < xs.length, p xs[k] = false) → xs.takeWhile p = xs.take k ∧ xs.dropWhile p = xs.drop k
  | [], k, _, hk, _ => by
    have : k = 0 := by simpa using hk
    subst this
    exact ⟨rfl, rfl⟩
  | x :: xs, 0, _, _, hs => by
    have := hs (by simp)
    simp only [List.getElem_cons_zero] at this
    exact ⟨by rw [List.takeWhile_cons_of_neg (by simp [this])]; rfl, by rw [List.dropWhile_cons_of_neg (by simp [this])]; rfl⟩
  | x :: xs, k + 1, h, hk, hs => by
    have h0 := h 0 (by simp) (by omega)
    simp only [List.getElem_cons_zero] at h0
    have ih := while_upto (p := p) (xs := xs) (k := k) (fun j hj hjk => by have := h (j + 1) (by simpa using hj) (by omega); simpa using this) (by simpa using hk) (fun h2 => by have := hs (by simpa using h2); simpa using this)
    exact ⟨by rw [List.takeWhile_cons_of_pos (by simp [h0]), ih.1]; rfl, by rw [List.dropWhile_cons_of_pos (by simp [h0]), ih.2]; rfl⟩
end Pl

set_option maxHeartbeats 1000000 in
theorem Inserted_any (xs : List Int) (n : Int) (oa : Option Addr) (cap : Nat) (w : World) (hs : Sl w oa xs.length cap 1 (intVals xs)) (hm : xs.length ≤ 64) :
    Calls Try.prog 28 #[.slice oa xs.length cap, .int .i64 n] w (RInts 3 (Pl.insS xs n) w) := by
  have hcap := hs.hcap
  have hmax := hs.hmax
  unfold maxLen at hmax
  obtain ⟨T, hT⟩ : ∃ T, Pl.insS xs n = T := ⟨_, rfl⟩
  rw [hT]
  replace hT := Lib.hid hT
  go_enter Try.func28, Try.ntmps28
  go_wp2
  go_loopw [5, 6] (fun v i wr => ∃ (k : Nat) (o : Option Addr) (c : Nat), k ≤ xs.length ∧ i = .int .i64 (k : Int) ∧ v = .slice o k c ∧ Hid (UpTo (fun x => decide (x < n)) xs k) ∧ wr.ownsRow w.heap.size 3 1 (.slice o k c) k (intVals (xs.take k)) ∧ Below w.heap.size w wr) (fun _ i _ => xs.length - (intOf i).toNat)
  case atStart => exact ⟨0, none, 0, Nat.zero_le _, rfl, rfl, UpTo.zero _ _, World.ownsRow_nil _ _ _ _, Below.refl _ _⟩
  case round =>
    obtain ⟨k, o, c, hk, rfl, rfl, hu, hown, hbw⟩ := hrel
    have sw := hbw.size
    by_cases hgo : ∃ h : k < xs.length, xs[k] < n
    · obtain ⟨hlt2, hx⟩ := hgo
      rcases hs.mem with h0 | ⟨b, off, rfl, hlt, hc⟩
      · have h0 : xs = [] := by simpa [intVals] using h0
        rw [h0] at hlt2
        simp at hlt2
      have hcell : wr.cell? ⟨b, off + k, none⟩ = some (.int .i64 xs[k]) := by
        rw [hbw.cell (p := ⟨b, off + k, none⟩) hlt]
        exact hc k _ (intVals_get xs k hlt2)
      have hu2 := Lib.hid (hu.out.succ hlt2 (by simpa using hx))
      have HT := Lib.hid (show intVals (xs.take k) ++ [.int .i64 xs[k]] = intVals (xs.take (k + 1)) by rw [List.take_succ_eq_append_getElem hlt2, intVals_append]; rfl)
      have e5 : (k : Int) < (xs.length : Int) := by omega
      have e6 : decide (k < xs.length) = true := by simp; omega
      have e7 : decide (xs[k] < n) = true := by simpa using hx
      clear hc hx
      generalize xs[k] = X at *
      go_wp2_with (at_builtin; refine ap1 (by rfl) (by rfl) Try.tInts hbw (by rfl) hown (m := 1) (by rfl) (by rfl) (by rfl) (by omega) sw ?_; intro v1 w1 own1 bel1 sz1; obtain ⟨o1, c1, rfl⟩ := own_slice own1)
      go_roundw
      case rel => exact ⟨k + 1, o1, c1, hlt2, by go_num, rfl, hu2, by rw [← HT.out]; exact own1, bel1⟩
      case measure => simp [intOf]; omega
    · have hwh := Pl.while_upto (p := fun x => decide (x < n)) hu.out hk (fun h => by
        have : ¬ xs[k] < n := fun h2 => hgo ⟨h, h2⟩
        simpa using this)
      have hT2 := Lib.hid (show xs.take k ++ [n] ++ xs.drop k = T by rw [← hT.out, Pl.insS, hwh.1, hwh.2, List.append_assoc]; rfl)
      have hsw := hs.below hbw (Nat.le_refl _)
      have tests : ∀ h : k < xs.length, decide (xs[k] < n) = false := fun h => by
        have : ¬ xs[k] < n := fun h2 => hgo ⟨h, h2⟩
        simpa using this
      clear hgo hwh hT hu
      have fin : ∀ (v3 : Value) (w3 : World), w3.ownsRow w.heap.size 3 1 v3 (k + 1 + (xs.length - k)) (intVals (xs.take k) ++ [.int .i64 n] ++ intVals (xs.drop k)) → Below w.heap.size w w3 → RInts 3 T w (.returned v3) w3 := fun v3 w3 h1 h2 => by
        refine RInts.ok (n := k + 1 + (xs.length - k)) (by rw [← hT2.out]; simp; omega) ?_ (Nat.le_refl _) h2
        rw [← hT2.out, intVals_append, intVals_append]
        exact h1
      replace fin := Lib.hid fin
      have e6 : (k : Int) ≤ (cap : Int) := by omega
      have e7 : (k : Int) ≤ (xs.length : Int) := by omega
      have e8 : (0 : Int) ≤ (k : Int) := by omega
      rcases hs.mem with h0 | ⟨b, off, rfl, hlt, hc⟩
      · have h0 : xs = [] := by simpa [intVals] using h0
        subst h0
        obtain rfl : k = 0 := by simpa using hk
        simp only [List.length_nil, Nat.sub_zero, Nat.add_zero] at *
        clear tests
        cases oa with
        | none =>
          have tok : True := trivial
          have hsd : ∀ W : World, Sl W (none) 0 (cap) 1 (intVals ([] : List Int)) := fun W => ⟨rfl, Nat.zero_le _, by unfold maxLen; omega, .inl rfl⟩
          go_wp2_with (first | (at_builtin; have _t := tok; clear _t; clear tok; go_loud (refine ap1 (by rfl) (by rfl) Try.tInts hbw (by rfl) hown (m := 1) (by rfl) (by rfl) (by rfl) (by omega) sw ?_); intro v1 w1 own1 bel1 sz1; obtain ⟨o1, c1, rfl⟩ := own_slice own1; have s1 := bel1.size; have src1 := Src.ofSl (P := Try.prog) (t := 38) Try.underlying38 (hsd w1) (by decide) (intVals_one _)) | (at_builtin; refine ap (by rfl) (by rfl) Try.tInts bel1 (by rfl) own1 (m := 0) src1 (by omega) s1 ?_; intro v3 w3 own3 bel3 h3))
          go_ret
          exact fin.out _ _ own3 bel3
        | some ad =>
          by_cases hc0 : cap = 0
          · subst hc0
            have tok : True := trivial
            have hsd : ∀ W : World, Sl W (some ad) 0 (0) 1 (intVals ([] : List Int)) := fun W => ⟨rfl, Nat.zero_le _, by unfold maxLen; omega, .inl rfl⟩
            go_wp2_with (first | (at_builtin; have _t := tok; clear _t; clear tok; go_loud (refine ap1 (by rfl) (by rfl) Try.tInts hbw (by rfl) hown (m := 1) (by rfl) (by rfl) (by rfl) (by omega) sw ?_); intro v1 w1 own1 bel1 sz1; obtain ⟨o1, c1, rfl⟩ := own_slice own1; have s1 := bel1.size; have src1 := Src.ofSl (P := Try.prog) (t := 38) Try.underlying38 (hsd w1) (by decide) (intVals_one _)) | (at_builtin; refine ap (by rfl) (by rfl) Try.tInts bel1 (by rfl) own1 (m := 0) src1 (by omega) s1 ?_; intro v3 w3 own3 bel3 h3))
            go_ret
            exact fin.out _ _ own3 bel3
          · have tok : True := trivial
            have hsd : ∀ W : World, Sl W (some ad) 0 (cap) 1 (intVals ([] : List Int)) := fun W => ⟨rfl, Nat.zero_le _, by unfold maxLen; omega, .inl rfl⟩
            go_wp2_with (first | (at_builtin; have _t := tok; clear _t; clear tok; go_loud (refine ap1 (by rfl) (by rfl) Try.tInts hbw (by rfl) hown (m := 1) (by rfl) (by rfl) (by rfl) (by omega) sw ?_); intro v1 w1 own1 bel1 sz1; obtain ⟨o1, c1, rfl⟩ := own_slice own1; have s1 := bel1.size; have src1 := Src.ofSl (P := Try.prog) (t := 38) Try.underlying38 (hsd w1) (by decide) (intVals_one _)) | (at_builtin; refine ap (by rfl) (by rfl) Try.tInts bel1 (by rfl) own1 (m := 0) src1 (by omega) s1 ?_; intro v3 w3 own3 bel3 h3))
            go_ret
            exact fin.out _ _ own3 bel3
      · by_cases hlt2 : k < xs.length
        · have hcell : wr.cell? ⟨b, off + k, none⟩ = some (.int .i64 xs[k]) := by
            rw [hbw.cell (p := ⟨b, off + k, none⟩) hlt]
            exact hc k _ (intVals_get xs k hlt2)
          have t1 := tests hlt2
          have t2 : decide (k < xs.length) = true := by simp; omega
          have t3 : (k : Int) < (xs.length : Int) := by omega
          have hck : ¬ cap = k := by omega
          have sd := hs.dropK (k := k) hk (ob := some ⟨b, off + k, none⟩) (fun _ => ⟨b, off, rfl, rfl⟩)
          generalize xs[k] = X at *
          clear hc tests
          have tok : True := trivial
          go_wp2_with (first | (at_builtin; have _t := tok; clear _t; clear tok; go_loud (refine ap1 (by rfl) (by rfl) Try.tInts hbw (by rfl) hown (m := 1) (by rfl) (by rfl) (by rfl) (by omega) sw ?_); intro v1 w1 own1 bel1 sz1; obtain ⟨o1, c1, rfl⟩ := own_slice own1; have s1 := bel1.size; have src1 := Src.ofSl (P := Try.prog) (t := 38) Try.underlying38 (sd.below bel1 (Nat.le_refl _)) (by decide) (intVals_one _)) | (at_builtin; refine ap (by rfl) (by rfl) Try.tInts bel1 (by rfl) own1 (m := xs.length - k) src1 (by omega) s1 ?_; intro v3 w3 own3 bel3 h3))
          go_ret
          exact fin.out _ _ own3 bel3
        · have t2 : decide (k < xs.length) = false := by simp; omega
          have t3 : decide ((k : Int) < (xs.length : Int)) = false := by simp; omega
          clear hc tests
          by_cases hck : cap = k
          · have fin2 : ∀ (v3 : Value) (w3 : World), w3.ownsRow w.heap.size 3 1 v3 (k + 1 + 0) (intVals (xs.take k) ++ [.int .i64 n] ++ intVals ([] : List Int)) → Below w.heap.size w w3 → RInts 3 T w (.returned v3) w3 := fun v3 w3 h1 h2 => fin.out v3 w3 (by rw [List.drop_of_length_le (by omega : xs.length ≤ k), show xs.length - k = 0 by omega]; exact h1) h2
            replace fin := Lib.hid fin2
            clear fin2
            subst hck
            have tok : True := trivial
            have hsd : ∀ W : World, Sl W (some ⟨b, off, none⟩) 0 (0) 1 (intVals ([] : List Int)) := fun W => ⟨rfl, Nat.zero_le _, by unfold maxLen; omega, .inl rfl⟩
            go_wp2_with (first | (at_builtin; have _t := tok; clear _t; clear tok; go_loud (refine ap1 (by rfl) (by rfl) Try.tInts hbw (by rfl) hown (m := 1) (by rfl) (by rfl) (by rfl) (by omega) sw ?_); intro v1 w1 own1 bel1 sz1; obtain ⟨o1, c1, rfl⟩ := own_slice own1; have s1 := bel1.size; have src1 := Src.ofSl (P := Try.prog) (t := 38) Try.underlying38 (hsd w1) (by decide) (intVals_one _)) | (at_builtin; refine ap (by rfl) (by rfl) Try.tInts bel1 (by rfl) own1 (m := 0) src1 (by omega) s1 ?_; intro v3 w3 own3 bel3 h3))
            go_ret
            exact fin.out _ _ own3 bel3
          · have sd := hs.dropK (k := k) hk (ob := some ⟨b, off + k, none⟩) (fun h => absurd h hlt2)
            have tok : True := trivial
            go_wp2_with (first | (at_builtin; have _t := tok; clear _t; clear tok; go_loud (refine ap1 (by rfl) (by rfl) Try.tInts hbw (by rfl) hown (m := 1) (by rfl) (by rfl) (by rfl) (by omega) sw ?_); intro v1 w1 own1 bel1 sz1; obtain ⟨o1, c1, rfl⟩ := own_slice own1; have s1 := bel1.size; have src1 := Src.ofSl (P := Try.prog) (t := 38) Try.underlying38 (sd.below bel1 (Nat.le_refl _)) (by decide) (intVals_one _)) | (at_builtin; refine ap (by rfl) (by rfl) Try.tInts bel1 (by rfl) own1 (m := xs.length - k) src1 (by omega) s1 ?_; intro v3 w3 own3 bel3 h3))
            go_ret
            exact fin.out _ _ own3 bel3
end Go.Proofs.Ytkhkijpkgogncaa
