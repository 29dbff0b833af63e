/- Contract: the keys of a user, by the reference. -/
import Derived.Test.YtkhkijpkgogncaaVf
import Derived.Test.YtkhkijpkgogncaaKj
namespace Go.Proofs.Ytkhkijpkgogncaa
open Go.RowKit

namespace Pl
def bestStep (l0 : List Ev) (u t last : Int) (b : Int) (e : Ev) : Int := if wantB l0 u t e = true ∧ last < e.key ∧ (b = 0 ∨ e.key < b) then e.key else b
def bestS (l0 : List Ev) (u t last : Int) (l : List Ev) : Int := l.foldl (bestStep l0 u t last) 0
theorem bestS_snoc (l0 : List Ev) (u t last : Int) (l : List Ev) (k : Nat) (hk : k < l.length) : bestS l0 u t last (l.take (k + 1)) = bestStep l0 u t last (bestS l0 u t last (l.take k)) l[k] := by
  unfold bestS
  rw [List.take_succ_eq_append_getElem hk, List.foldl_append]
  rfl
theorem bestS_spec (l0 : List Ev) (u t last : Int) : ∀ (n : Nat) (l : List Ev), l.length = n → (∀ e ∈ l, 1 ≤ e.key) →
    (bestS l0 u t last l = 0 ∧ ∀ e ∈ l, wantB l0 u t e = true → ¬ last < e.key) ∨
    (last < bestS l0 u t last l ∧ bestS l0 u t last l ≠ 0 ∧ (∃ e ∈ l, wantB l0 u t e = true ∧ e.key = bestS l0 u t last l) ∧ ∀ e ∈ l, wantB l0 u t e = true → last < e.key → bestS l0 u t last l ≤ e.key)
  | 0, l, hn, _ => by
    have := List.eq_nil_of_length_eq_zero hn
    subst this
    exact .inl ⟨rfl, fun e he => by cases he⟩
  | n + 1, l, hn, hp => by
    have hk : n < l.length := by omega
    have e1 := bestS_snoc l0 u t last l n hk
    rw [List.take_of_length_le (by omega)] at e1
    have hpt : ∀ e ∈ l.take n, 1 ≤ e.key := fun e he => hp e (List.mem_of_mem_take he)
    have ih := bestS_spec l0 u t last n (l.take n) (by rw [List.length_take]; omega) hpt
    have hx1 := hp l[n] (List.getElem_mem hk)
    have hmem : ∀ e, e ∈ l ↔ e ∈ l.take n ∨ e = l[n] := fun e => by
      have : l = l.take n ++ [l[n]] := by rw [← List.take_succ_eq_append_getElem hk, List.take_of_length_le (by omega)]
      constructor
      · intro h; rw [this] at h; rcases List.mem_append.1 h with h | h
        · exact .inl h
        · exact .inr (List.mem_singleton.1 h)
      · rintro (h | h)
        · exact List.mem_of_mem_take h
        · rw [h]; exact List.getElem_mem hk
    generalize l[n] = x at *
    rw [e1]
    generalize bestS l0 u t last (l.take n) = b at *
    unfold bestStep
    by_cases hc : wantB l0 u t x = true ∧ last < x.key ∧ (b = 0 ∨ x.key < b)
    · rw [if_pos hc]
      obtain ⟨c1, c2, c3⟩ := hc
      refine .inr ⟨c2, by omega, ⟨x, (hmem x).2 (.inr rfl), c1, rfl⟩, fun e he hw hl => ?_⟩
      rcases (hmem e).1 he with he | he
      · rcases ih with ⟨hb, hno⟩ | ⟨_, hb, _, hmin⟩
        · exact absurd hl (hno e he hw)
        · have := hmin e he hw hl; omega
      · rw [he]; omega
    · rw [if_neg hc]
      rcases ih with ⟨hb, hno⟩ | ⟨h1, h2, ⟨e0, h3, h4, h5⟩, hmin⟩
      · refine .inl ⟨hb, fun e he hw hl => ?_⟩
        rcases (hmem e).1 he with he | he
        · exact hno e he hw hl
        · rw [he] at hw hl; exact hc ⟨hw, hl, .inl hb⟩
      · refine .inr ⟨h1, h2, ⟨e0, (hmem e0).2 (.inl h3), h4, h5⟩, fun e he hw hl => ?_⟩
        rcases (hmem e).1 he with he | he
        · exact hmin e he hw hl
        · rw [he] at hw hl ⊢
          by_cases h : x.key < b
          · exact absurd ⟨hw, hl, .inr h⟩ hc
          · omega
def lastK (L : List Int) (j : Nat) : Int := if j = 0 then 0 else L.getD (j - 1) 0
theorem best_is {l : List Ev} {u t : Int} (hp : ∀ e ∈ l, 1 ≤ e.key) (j : Nat) (hj : j ≤ (ukS l u t).length) : bestS l u t (lastK (ukS l u t) j) l = (ukS l u t).getD j 0 := by
  have hr := ukS_rising l u t
  have hm : ∀ x, x ∈ ukS l u t ↔ ∃ e ∈ l, wantB l u t e = true ∧ e.key = x := fun x => by
    rw [mem_ukS]
    simp only [wantB, Bool.and_eq_true, beq_iff_eq]
    constructor
    · rintro ⟨e, h1, h2, h3, rfl, h4⟩; exact ⟨e, h1, ⟨⟨h2, h3⟩, h4⟩, rfl⟩
    · rintro ⟨e, h1, ⟨⟨h2, h3⟩, h4⟩, rfl⟩; exact ⟨e, h1, h2, h3, rfl, h4⟩
  generalize ukS l u t = L at *
  have hpos : ∀ x ∈ L, 1 ≤ x := fun x hx => by obtain ⟨e, h1, _, rfl⟩ := (hm x).1 hx; exact hp e h1
  rw [List.pairwise_iff_getElem] at hr
  have hle : ∀ (i k : Nat) (hi : i < L.length) (hk : k < L.length), i ≤ k → L[i] ≤ L[k] := fun i k hi hk h => by
    rcases Nat.lt_or_ge i k with h2 | h2
    · exact Int.le_of_lt (hr i k hi hk h2)
    · obtain rfl : i = k := by omega
      exact Int.le_refl _
  rcases bestS_spec l u t (lastK L j) l.length l rfl hp with ⟨hb, hno⟩ | ⟨h1, h2, ⟨e, h3, h4, h5⟩, hmin⟩
  · rw [hb]
    by_cases hlt : j < L.length
    · exfalso
      obtain ⟨e, h3, h4, h5⟩ := (hm L[j]).1 (List.getElem_mem hlt)
      refine hno e h3 h4 ?_
      rw [h5]
      unfold lastK
      by_cases h0 : j = 0
      · rw [if_pos h0]; have := hpos _ (List.getElem_mem hlt); omega
      · rw [if_neg h0, List.getD_eq_getElem?_getD, List.getElem?_eq_getElem (by omega : j - 1 < L.length)]
        exact hr (j - 1) j (by omega) hlt (by omega)
    · rw [List.getD_eq_getElem?_getD, List.getElem?_eq_none (by omega)]; rfl
  · generalize bestS l u t (lastK L j) l = b at *
    have hbL : b ∈ L := (hm b).2 ⟨e, h3, h4, h5⟩
    obtain ⟨i, hi, hib⟩ := List.mem_iff_getElem.1 hbL
    have hij : j ≤ i := by
      rcases Nat.lt_or_ge i j with h | h
      · exfalso
        unfold lastK at h1
        rw [if_neg (by omega), List.getD_eq_getElem?_getD, List.getElem?_eq_getElem (by omega : j - 1 < L.length)] at h1
        have h6 := hle i (j - 1) hi (by omega) (by omega)
        rw [hib] at h6
        have h1 : L[j - 1] < b := h1
        omega
      · exact h
    have hjl : j < L.length := by omega
    rw [List.getD_eq_getElem?_getD, List.getElem?_eq_getElem hjl]
    show b = L[j]
    have h6 := hle j i hjl hi hij
    rw [hib] at h6
    obtain ⟨e', g3, g4, g5⟩ := (hm L[j]).1 (List.getElem_mem hjl)
    have h7 := hmin e' g3 g4 (by
      rw [g5]
      unfold lastK
      by_cases h0 : j = 0
      · rw [if_pos h0]; have := hpos _ (List.getElem_mem hjl); omega
      · rw [if_neg h0, List.getD_eq_getElem?_getD, List.getElem?_eq_getElem (by omega : j - 1 < L.length)]
        exact hr (j - 1) j (by omega) hjl (by omega))
    rw [g5] at h7
    omega
theorem Valid.keys {l : List Ev} (h : Valid l) : ∀ e ∈ l, 1 ≤ e.key := by
  refine Valid.ind (P := fun l => ∀ e ∈ l, 1 ≤ e.key) (fun e he => by cases he) (fun l e _ ih hg x hx => ?_) l.length l rfl h
  rcases List.mem_append.1 hx with hx | hx
  · exact ih x hx
  · rw [List.mem_singleton.1 hx]; exact (isKeyB_true.1 hg.hkey).1
theorem ukS_length (l : List Ev) (u t : Int) : (ukS l u t).length ≤ l.length := by
  have hn : (ukS l u t).Nodup := (ukS_rising l u t).imp (fun h => by omega)
  have hsub : ukS l u t ⊆ l.map Ev.key := fun x hx => by
    obtain ⟨e, h1, _, _, h2, _⟩ := mem_ukS.1 hx
    exact List.mem_map.2 ⟨e, h1, h2⟩
  have := List.Nodup.length_le_of_subset hn hsub
  rwa [List.length_map] at this
theorem ukS_pos {l : List Ev} (hp : ∀ e ∈ l, 1 ≤ e.key) {u t x : Int} (hx : x ∈ ukS l u t) : 1 ≤ x := by
  obtain ⟨e, h1, _, _, h2, _⟩ := mem_ukS.1 hx
  rw [← h2]; exact hp e h1
end Pl
def lenOf : Value → Nat
  | .slice _ n _ => n
  | _ => 0
set_option maxHeartbeats 4000000 in
theorem UserKeys_any (l : List Pl.Ev) (u t : Int) (oa : Option Addr) (cap : Nat) (w : World) (hs : Sl w oa l.length cap 4 (quadVals l)) (h40 : l.length ≤ 40) (hv : Pl.Valid l) :
    Calls Try.prog 39 #[.slice oa l.length cap, .int .i64 u, .int .i64 t] w (RInts 3 (Pl.ukS l u t) w) := by
  have HB := Lib.hid (fun j hj => Pl.best_is (u := u) (t := t) hv.keys j hj)
  have hLl := Pl.ukS_length l u t
  have HP := Lib.hid (fun x => Pl.ukS_pos hv.keys (u := u) (t := t) (x := x))
  obtain ⟨L, hL⟩ : ∃ L, Pl.ukS l u t = L := ⟨_, rfl⟩
  rw [hL] at HB HP hLl ⊢
  clear hL hv
  have hm : l.length ≤ 9223372036854775807 := by omega
  go_enter Try.func39, Try.ntmps39
  go_wp2
  go_loopw [7, 8] (fun v x wr => ∃ (j : Nat) (o : Option Addr) (c : Nat), j ≤ L.length ∧ v = .slice o j c ∧ x = .int .i64 (Pl.lastK L j) ∧ wr.ownsRow w.heap.size 3 1 (.slice o j c) j (intVals (L.take j)) ∧ Below w.heap.size w wr) (fun v _ _ => L.length - lenOf v)
  case atStart => exact ⟨0, none, 0, Nat.zero_le _, rfl, rfl, World.ownsRow_nil _ _ _ _, Below.refl _ _⟩
  case round =>
    obtain ⟨j, o, c, hj, rfl, rfl, hown, hbw⟩ := hrel
    have sw := hbw.size
    have HBJ := Lib.hid (HB.out j hj)
    obtain ⟨LK, hLK⟩ : ∃ x, Pl.lastK L j = x := ⟨_, rfl⟩
    rw [hLK] at HBJ ⊢
    clear hLK
    have hsr := hs.below hbw (Nat.le_refl _)
    obtain ⟨wo, rfl⟩ : ∃ wo : World, wo = wr := ⟨_, rfl⟩
    go_wp2_with fail
    go_loopw [9, 10] (fun v i wr => ∃ (q : Nat) (b : Int), q ≤ l.length ∧ i = .int .i64 (q : Int) ∧ v = .int .i64 b ∧ Hid (b = Pl.bestS l u t LK (l.take q)) ∧ Below wo.heap.size wo wr) (fun _ i _ => l.length - (intOf i).toNat)
    case atStart => exact ⟨0, 0, Nat.zero_le _, rfl, rfl, rfl, Below.refl _ _⟩
    case round =>
      obtain ⟨q, b, hq, rfl, rfl, hb, hbi⟩ := hrel
      have hsi := hbi.size
      have hsq := hsr.below hbi (Nat.le_refl _)
      have BQ := bcall hbw hbi sw
      by_cases hlt : q < l.length
      · obtain ⟨g, off, rfl, hg, c0, c1, c2, c3⟩ := hsq.quad hlt
        have HS := Lib.hid (show Pl.bestS l u t LK (l.take (q + 1)) = Pl.bestStep l u t LK b l[q] by rw [hb.out]; exact Pl.bestS_snoc l u t LK l q hlt)
        obtain ⟨⟨kd, ky, us, tm⟩, he⟩ : ∃ e, l[q] = e := ⟨_, rfl⟩
        rw [he] at c0 c1 c2 c3 HS
        simp only at c0 c1 c2 c3
        clear he hb
        have t2 : (q : Int) < (l.length : Int) := by omega
        have t1 : decide (q < l.length) = true := by simp; omega
        have MISS := Lib.hid (show ¬ (Pl.wantB l u t ⟨kd, ky, us, tm⟩ = true ∧ LK < ky ∧ (b = 0 ∨ ky < b)) → b = Pl.bestS l u t LK (l.take (q + 1)) from fun h => by rw [HS.out, Pl.bestStep, if_neg h])
        have HIT := Lib.hid (show (Pl.wantB l u t ⟨kd, ky, us, tm⟩ = true ∧ LK < ky ∧ (b = 0 ∨ ky < b)) → ky = Pl.bestS l u t LK (l.take (q + 1)) from fun h => by rw [HS.out, Pl.bestStep, if_pos h])
        clear HS
        cases h1 : (kd == 1) with
        | false =>
          have E := Lib.hid (MISS.out (by simp [Pl.wantB, h1]))
          clear MISS HIT
          go_wp2_with (go_at_call 35; refine (KeyValid_any l ky t _ cap _ (hsq.below (by go_grown) (Nat.le_refl _)) hm).mono ?_; rintro e w' ⟨rfl, rfl⟩)
          go_roundw
          case rel => exact ⟨q + 1, b, hlt, by go_num, rfl, E, by go_grown⟩
          case measure => simp [intOf]; omega
        | true =>
          cases h2 : (us == u) with
          | false =>
            have E := Lib.hid (MISS.out (by simp [Pl.wantB, h2]))
            clear MISS HIT
            go_wp2_with (go_at_call 35; refine (KeyValid_any l ky t _ cap _ (hsq.below (by go_grown) (Nat.le_refl _)) hm).mono ?_; rintro e w' ⟨rfl, rfl⟩)
            go_roundw
            case rel => exact ⟨q + 1, b, hlt, by go_num, rfl, E, by go_grown⟩
            case measure => simp [intOf]; omega
          | true =>
            cases h3 : decide (LK < ky) with
            | false =>
              have E := Lib.hid (MISS.out (fun h => by simp at h3; omega))
              clear MISS HIT
              go_wp2_with (go_at_call 35; refine (KeyValid_any l ky t _ cap _ (hsq.below (by go_grown) (Nat.le_refl _)) hm).mono ?_; rintro e w' ⟨rfl, rfl⟩)
              go_roundw
              case rel => exact ⟨q + 1, b, hlt, by go_num, rfl, E, by go_grown⟩
              case measure => simp [intOf]; omega
            | true =>
              cases h5 : Pl.kvB l ky t with
              | false =>
                cases h4 : (b == 0) with
                | true =>
                  have E := Lib.hid (MISS.out (by simp [Pl.wantB, h5]))
                  clear MISS HIT
                  go_wp2_with (go_at_call 35; refine (KeyValid_any l ky t _ cap _ (hsq.below (by go_grown) (Nat.le_refl _)) hm).mono ?_; rintro e w' ⟨rfl, rfl⟩)
                  go_roundw
                  case rel => exact ⟨q + 1, b, hlt, by go_num, rfl, E, by go_grown⟩
                  case measure => simp [intOf]; omega
                | false =>
                  cases h6 : decide (ky < b) with
                  | true =>
                    have E := Lib.hid (MISS.out (by simp [Pl.wantB, h5]))
                    clear MISS HIT
                    go_wp2_with (go_at_call 35; refine (KeyValid_any l ky t _ cap _ (hsq.below (by go_grown) (Nat.le_refl _)) hm).mono ?_; rintro e w' ⟨rfl, rfl⟩)
                    go_roundw
                    case rel => exact ⟨q + 1, b, hlt, by go_num, rfl, E, by go_grown⟩
                    case measure => simp [intOf]; omega
                  | false =>
                    have E := Lib.hid (MISS.out (by simp [Pl.wantB, h5]))
                    clear MISS HIT
                    go_wp2_with (go_at_call 35; refine (KeyValid_any l ky t _ cap _ (hsq.below (by go_grown) (Nat.le_refl _)) hm).mono ?_; rintro e w' ⟨rfl, rfl⟩)
                    go_roundw
                    case rel => exact ⟨q + 1, b, hlt, by go_num, rfl, E, by go_grown⟩
                    case measure => simp [intOf]; omega
              | true =>
                have hwant : Pl.wantB l u t ⟨kd, ky, us, tm⟩ = true := by simp only [Pl.wantB]; rw [h1, h2, h5]; rfl
                have hlk : LK < ky := by simpa using h3
                replace hwant := Lib.hid hwant
                replace hlk := Lib.hid hlk
                cases h4 : (b == 0) with
                | true =>
                  have E := Lib.hid (HIT.out ⟨hwant.out, hlk.out, .inl (by simpa using h4)⟩)
                  clear MISS HIT
                  go_wp2_with (go_at_call 35; refine (KeyValid_any l ky t _ cap _ (hsq.below (by go_grown) (Nat.le_refl _)) hm).mono ?_; rintro e w' ⟨rfl, rfl⟩)
                  go_roundw
                  case rel => exact ⟨q + 1, ky, hlt, by go_num, rfl, E, by go_grown⟩
                  case measure => simp [intOf]; omega
                | false =>
                  cases h6 : decide (ky < b) with
                  | true =>
                    have E := Lib.hid (HIT.out ⟨hwant.out, hlk.out, .inr (by simpa using h6)⟩)
                    clear MISS HIT
                    go_wp2_with (go_at_call 35; refine (KeyValid_any l ky t _ cap _ (hsq.below (by go_grown) (Nat.le_refl _)) hm).mono ?_; rintro e w' ⟨rfl, rfl⟩)
                    go_roundw
                    case rel => exact ⟨q + 1, ky, hlt, by go_num, rfl, E, by go_grown⟩
                    case measure => simp [intOf]; omega
                  | false =>
                    have E := Lib.hid (MISS.out (fun h => by simp at h4 h6; omega))
                    clear MISS HIT
                    go_wp2_with (go_at_call 35; refine (KeyValid_any l ky t _ cap _ (hsq.below (by go_grown) (Nat.le_refl _)) hm).mono ?_; rintro e w' ⟨rfl, rfl⟩)
                    go_roundw
                    case rel => exact ⟨q + 1, b, hlt, by go_num, rfl, E, by go_grown⟩
                    case measure => simp [intOf]; omega
      · have hq2 : q = l.length := by omega
        have HE := Lib.hid (show b = L.getD j 0 by rw [hb.out, hq2, List.take_length]; exact HBJ.out)
        clear hq2 hb
        have hown3 := ownsRow_below hown hbi (Nat.le_refl _)
        have s3 := BQ.size
        have t1 : decide (q < l.length) = false := by simp; omega
        by_cases hjl : j < L.length
        · have hbj : b = L[j] := by rw [HE.out, List.getD_eq_getElem?_getD, List.getElem?_eq_getElem hjl]; rfl
          have hb0 : b ≠ 0 := by have := HP.out L[j] (List.getElem_mem hjl); omega
          have u1 : (b == 0) = false := by simp [hb0]
          have HT := Lib.hid (show intVals (L.take j) ++ [.int .i64 b] = intVals (L.take (j + 1)) by rw [List.take_succ_eq_append_getElem hjl, intVals_append, hbj]; rfl)
          have HK := Lib.hid (show Pl.lastK L (j + 1) = b by unfold Pl.lastK; rw [if_neg (by omega), Nat.add_sub_cancel]; exact HE.out.symm)
          clear hbj hb0
          go_wp2_with (at_builtin; refine ap1 (by rfl) (by rfl) Try.tInts BQ (by rfl) hown3 (m := 1) (by rfl) (by rfl) (by rfl) (by omega) s3 ?_; intro v1 w4 hown4 hb4 hsz4; obtain ⟨o4, c4, rfl⟩ := own_slice hown4)
          go_roundw
          case rel => exact ⟨j + 1, o4, c4, hjl, rfl, by rw [HK.out], by rw [← HT.out]; exact hown4, hb4⟩
          case measure => simp [lenOf]; omega
        · obtain rfl : j = L.length := by omega
          have hb0 : b = 0 := by rw [HE.out, List.getD_eq_getElem?_getD, List.getElem?_eq_none (Nat.le_refl _)]; rfl
          have u1 : (b == 0) = true := by simp [hb0]
          rw [List.take_length] at hown3
          clear hb0
          go_wp2_with fail
          go_ret
          exact ⟨o, c, rfl, hown3, BQ⟩
end Go.Proofs.Ytkhkijpkgogncaa
