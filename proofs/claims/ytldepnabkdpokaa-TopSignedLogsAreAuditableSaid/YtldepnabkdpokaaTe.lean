/- Contracts: the reader of proofs. -/
import Derived.Test.YtldepnabkdpokaaTd
namespace Go.Proofs.Ytldepnabkdpokaa
open Go.RowKit

/-- A reader in block r: what is left of the proof, and whether it was too short. -/
def Rd (w : World) (r : Nat) (p : List Int) (sh : Bool) : Prop :=
  ∃ oa cap, Box2 w r (.slice oa p.length cap) (.bool sh) ∧ Sl w oa p.length cap 1 (intVals p) ∧ (p ≠ [] → ∀ b o, oa = some ⟨b, o, none⟩ → b ≠ r)
theorem Rd.below {w w' : World} {r : Nat} {p : List Int} {sh : Bool} (h : Rd w r p sh) (hb : Below w.heap.size w w') : Rd w' r p sh := by
  obtain ⟨oa, cap, h1, h2, h3⟩ := h
  exact ⟨oa, cap, h1.below hb h1.lt, h2.below hb (Nat.le_refl _), h3⟩
theorem Rd.lt {w : World} {r : Nat} {p : List Int} {sh : Bool} (h : Rd w r p sh) : r < w.heap.size := by
  obtain ⟨_, _, h1, _⟩ := h
  exact h1.lt
theorem grown_below {w w' : World} (h : Below w.heap.size w w') (row : Option Nat) : w.grownBy w' row := ⟨h.os, h.tape, h.output, h.size, fun i hi _ => h.block i hi⟩
theorem grown_trans {a b c : World} {row : Option Nat} (h : a.grownBy b row) (k : b.grownBy c row) : a.grownBy c row :=
  ⟨k.os.trans h.os, k.tape.trans h.tape, k.output.trans h.output, Nat.le_trans h.size k.size, fun i hi hn => (k.block i (Nat.lt_of_lt_of_le hi h.size) hn).trans (h.block i hi hn)⟩
theorem grown_set {w : World} {r o : Nat} {v : Value} : w.grownBy (w.setCell ⟨r, o, none⟩ v) (some r) :=
  ⟨rfl, rfl, rfl, by simp, fun i hi hn => Below.heap_setCell _ _ _ _ (by intro h; exact hn (by simp [h]))⟩
theorem Sl.grown {w w' : World} {oa : Option Addr} {n cap sz r : Nat} {cs : List Value} (h : Sl w oa n cap sz cs) (hg : w.grownBy w' (some r)) (hne : ∀ b o, oa = some ⟨b, o, none⟩ → b ≠ r) : Sl w' oa n cap sz cs := by
  refine ⟨h.hl, h.hcap, h.hmax, ?_⟩
  rcases h.mem with h0 | ⟨b, off, rfl, hlt, hc⟩
  · exact .inl h0
  · exact .inr ⟨b, off, rfl, Nat.lt_of_lt_of_le hlt hg.size, fun j u hu => hg.cell (hc j u hu) (by simpa using hne b off rfl)⟩

theorem rnext_any (r : Nat) (p : List Int) (sh : Bool) (w : World) (h : Rd w r p sh) :
    Calls Try.prog 53 #[.pointer (some ⟨r, 0, none⟩)] w fun e w' => e = .returned (.int .i64 (Pl.nextS p sh).1) ∧ Rd w' r (Pl.nextS p sh).2.1 (Pl.nextS p sh).2.2 ∧ w.grownBy w' (some r) := by
  obtain ⟨oa, cap, ⟨c0, c1, f0, f1, l1⟩, hs, hne⟩ := h
  match p with
  | [] =>
    have c0 : w.cell? ⟨r, 0, none⟩ = some (.slice oa 0 cap) := c0
    go_enter Try.func53, Try.ntmps53
    go_wp2
    go_ret
    refine ⟨rfl, ⟨oa, cap, ⟨?_, ?_, ?_, ?_, ?_⟩, ⟨hs.hl, hs.hcap, hs.hmax, .inl rfl⟩, fun h => absurd rfl h⟩, grown_set⟩
    · rw [World.cell?_setCell_other _ _ _ _ (by simp)]; exact c0
    · exact World.cell?_setCell_same _ _ _ c1
    · rw [frozen_setCell]; exact f0
    · rw [frozen_setCell]; exact f1
    · simpa using l1
  | x :: p =>
    have hcap := hs.hcap
    have hmax := hs.hmax
    unfold maxLen at hmax
    simp only [List.length_cons] at hcap c0
    rcases hs.mem with h0 | ⟨b, off, rfl, hlt, hc⟩
    · simp [intVals] at h0
    have hb : b ≠ r := hne (by simp) b off rfl
    have e0 : w.cell? ⟨b, off, none⟩ = some (.int .i64 x) := hc 0 _ rfl
    have hrest : ∀ j u, (intVals p)[j]? = some u → w.cell? ⟨b, off + 1 + j, none⟩ = some u := fun j u hu => by
      have := hc (j + 1) u hu
      rwa [show off + (j + 1) = off + 1 + j by omega] at this
    replace hrest := Lib.hid hrest
    clear hc hs hne
    by_cases h1 : cap = 1
    · subst h1
      have hp : p = [] := List.eq_nil_of_length_eq_zero (by omega)
      subst hp
      have c0 : w.cell? ⟨r, 0, none⟩ = some (.slice (some ⟨b, off, none⟩) 1 1) := c0
      clear hcap
      go_enter Try.func53, Try.ntmps53
      go_wp2
      go_ret
      refine ⟨rfl, ⟨_, _, ⟨World.cell?_setCell_same _ _ _ c0, ?_, ?_, ?_, ?_⟩, ?_, ?_⟩, grown_set⟩
      · rw [World.cell?_setCell_other _ _ _ _ (by simp)]; exact c1
      · rw [frozen_setCell]; exact f0
      · rw [frozen_setCell]; exact f1
      · simpa using l1
      · exact ⟨rfl, Nat.le_refl _, Nat.zero_le _, .inl rfl⟩
      · intro _ b' o' h; cases h; exact hb
    · go_enter Try.func53, Try.ntmps53
      go_wp2
      go_ret
      refine ⟨rfl, ⟨_, _, ⟨World.cell?_setCell_same _ _ _ c0, ?_, ?_, ?_, ?_⟩, ?_, ?_⟩, grown_set⟩
      · rw [World.cell?_setCell_other _ _ _ _ (by simp)]; exact c1
      · rw [frozen_setCell]; exact f0
      · rw [frozen_setCell]; exact f1
      · simpa using l1
      · refine ⟨by rw [intVals_length]; exact (Nat.mul_one _).symm, ?_, ?_, .inr ⟨b, off + 1, rfl, by simpa using hlt, fun j u hu => ?_⟩⟩
        · show p.length ≤ cap - 1
          omega
        · unfold maxLen; omega
        · rw [World.cell?_setCell_other _ _ _ _ (by simp)]
          exact hrest.out j u hu
      · intro _ b' o' h; cases h; exact hb
theorem done_any (r : Nat) (p : List Int) (sh : Bool) (w : World) (h : Rd w r p sh) (hp : p.length ≤ 64) :
    Calls Try.prog 42 #[.pointer (some ⟨r, 0, none⟩)] w fun e w' => e = .returned (.bool (Pl.doneB (p, sh))) ∧ w = w' := by
  obtain ⟨oa, cap, ⟨c0, c1, f0, f1, l1⟩, hs, hne⟩ := h
  clear hs hne
  cases sh
  · by_cases h0 : p.length = 0
    · have hp : p = [] := List.eq_nil_of_length_eq_zero h0
      subst hp
      have c0 : w.cell? ⟨r, 0, none⟩ = some (.slice oa 0 cap) := c0
      clear h0
      go_enter Try.func42, Try.ntmps42
      go_wp2
      go_ret
      exact ⟨ret_bool (by simp [Pl.doneB]), rfl⟩
    · have t : ((p.length : Int) == 0) = false := by rw [beq_eq_false_iff_ne]; omega
      have e : p.isEmpty = false := by cases p with | nil => simp at h0 | cons x p => rfl
      replace e := Lib.hid e
      clear h0
      go_enter Try.func42, Try.ntmps42
      go_wp2
      go_ret
      exact ⟨ret_bool (by simp [Pl.doneB, e.out]), rfl⟩
  · go_enter Try.func42, Try.ntmps42
    go_wp2
    go_ret
    exact ⟨ret_bool (by simp [Pl.doneB]), rfl⟩

namespace Pl
theorem nextS_digest {p : List Int} {sh : Bool} (h : ∀ x ∈ p, isDigestB x = true) : isDigestB (nextS p sh).1 = true ∧ ∀ x ∈ (nextS p sh).2.1, isDigestB x = true := by
  cases p with
  | nil => exact ⟨by show isDigestB 0 = true; decide, by intro x hx; cases hx⟩
  | cons y p => exact ⟨h y (by simp), fun x hx => h x (by simp [show x ∈ p from hx])⟩
end Pl

/-- What a reading function leaves. -/
structure RdOut (r : Nat) (w w' : World) (st : List Int × Bool) : Prop where
  rd : Rd w' r st.1 st.2
  grown : w.grownBy w' (some r)
  dig : ∀ x ∈ st.1, Pl.isDigestB x = true

set_option maxHeartbeats 400000 in
theorem included_any : ∀ (n : Nat) (i : Nat) (leaf : Int) (r : Nat) (p : List Int) (sh : Bool) (w : World), n ≤ 64 → i < n → Pl.isDigestB leaf = true → (∀ x ∈ p, Pl.isDigestB x = true) → Rd w r p sh →
    Calls Try.prog 41 #[.pointer (some ⟨r, 0, none⟩), .int .i64 (n : Int), .int .i64 (i : Int), .int .i64 leaf] w fun e w' =>
      e = .returned (.int .i64 (Pl.incS (Pl.dirs n i) (leaf, p, sh)).1) ∧ RdOut r w w' (Pl.incS (Pl.dirs n i) (leaf, p, sh)).2
  | n, i, leaf, r, p, sh, w, hn, hi, hd, hp, h => by
    by_cases h1 : n ≤ 1
    · obtain rfl : n = 1 := by omega
      rw [Pl.dirs_one 1 i h1]
      clear h1 hn
      go_enter Try.func41, Try.ntmps41
      go_wp2
      go_ret
      exact ⟨rfl, h, ⟨rfl, rfl, rfl, Nat.le_refl _, fun _ _ _ => rfl⟩, hp⟩
    · have h3 := Pl.splitN_lt (n := n) (by omega) hn
      have hr := Pl.dirs_step n i (by omega) hn
      have it := included_any (Pl.splitN n) i leaf r p sh w (by omega)
      have id := included_any (n - Pl.splitN n) (i - Pl.splitN n) leaf r p sh w (by omega)
      replace it := fun hi => it hi hd hp h
      replace id := fun hi => id hi hd hp h
      replace it := Lib.hid it
      replace id := Lib.hid id
      generalize hK : Pl.splitN n = K at *
      have hKe := Lib.hid hK
      clear hK h hp
      have t1 : ((n : Int) == 1) = false := by rw [beq_eq_false_iff_ne]; omega
      by_cases hik : i < K
      · rw [if_pos hik] at hr
        have tk : decide ((i : Int) < (K : Int)) = true := by simp; omega
        have hsn := Pl.incS_snoc (Pl.dirs K i) true (leaf, p, sh)
        have hdg := Pl.incS_digest (Pl.dirs K i) leaf p sh hd
        rw [← hr] at hsn
        obtain ⟨⟨v, q, s2⟩, hv⟩ : ∃ st, Pl.incS (Pl.dirs K i) (leaf, p, sh) = st := ⟨_, rfl⟩
        rw [hv] at it hsn hdg
        rw [hsn]
        clear hsn hr hv hd
        replace hdg := Lib.hid hdg
        go_enter Try.func41, Try.ntmps41
        go_wp2_with fail
        refine (split_any n _ hn).mono ?_
        rintro e w' ⟨rfl, rfl⟩
        rw [hKe.out]
        go_wp2_with fail
        refine (it.out hik).mono ?_
        rintro e w1 ⟨rfl, o1⟩
        go_wp2_with fail
        refine (rnext_any r q s2 _ o1.rd).mono ?_
        rintro e w2 ⟨rfl, rd2, g2⟩
        have hx := Pl.nextS_digest (sh := s2) o1.dig
        go_wp2_with fail
        refine (tpair_any _ _ _ hdg.out hx.1).mono ?_
        rintro e w3 ⟨rfl, hb3⟩
        go_wp2_with fail
        go_ret
        exact ⟨rfl, rd2.below hb3, grown_trans (grown_trans o1.grown g2) (grown_below hb3 _), hx.2⟩
      · rw [if_neg hik] at hr
        have tk : decide ((i : Int) < (K : Int)) = false := by simp; omega
        obtain ⟨J, hJ⟩ : ∃ J, i - K = J := ⟨_, rfl⟩
        obtain ⟨N, hN⟩ : ∃ N, n - K = N := ⟨_, rfl⟩
        rw [hJ, hN] at hr id
        have hJn : J < N := by omega
        have e1 : (n : Int) - (K : Int) = (N : Int) := by omega
        have e2 : (i : Int) - (K : Int) = (J : Int) := by omega
        have k1 : (K : Int) ≤ (n : Int) := by omega
        have k2 : (K : Int) ≤ (i : Int) := by omega
        have hsn := Pl.incS_snoc (Pl.dirs N J) false (leaf, p, sh)
        have hdg := Pl.incS_digest (Pl.dirs N J) leaf p sh hd
        rw [← hr] at hsn
        obtain ⟨⟨v, q, s2⟩, hv⟩ : ∃ st, Pl.incS (Pl.dirs N J) (leaf, p, sh) = st := ⟨_, rfl⟩
        rw [hv] at id hsn hdg
        rw [hsn]
        clear hsn hr hv hd hJ hN
        replace hdg := Lib.hid hdg
        go_enter Try.func41, Try.ntmps41
        go_wp2_with fail
        refine (split_any n _ hn).mono ?_
        rintro e w' ⟨rfl, rfl⟩
        rw [hKe.out]
        go_wp2_with fail
        refine (id.out hJn).mono ?_
        rintro e w1 ⟨rfl, o1⟩
        go_wp2_with fail
        refine (rnext_any r q s2 _ o1.rd).mono ?_
        rintro e w2 ⟨rfl, rd2, g2⟩
        have hx := Pl.nextS_digest (sh := s2) o1.dig
        go_wp2_with fail
        refine (tpair_any _ _ _ hx.1 hdg.out).mono ?_
        rintro e w3 ⟨rfl, hb3⟩
        go_wp2_with fail
        go_ret
        exact ⟨rfl, rd2.below hb3, grown_trans (grown_trans o1.grown g2) (grown_below hb3 _), hx.2⟩
termination_by n => n
decreasing_by all_goals omega
end Go.Proofs.Ytldepnabkdpokaa
