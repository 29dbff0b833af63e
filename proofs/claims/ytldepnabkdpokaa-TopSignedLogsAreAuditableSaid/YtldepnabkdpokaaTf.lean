/- Contract: the roots that a consistency proof computes. -/
import Derived.Test.YtldepnabkdpokaaTe
namespace Go.Proofs.Ytldepnabkdpokaa
open Go.RowKit

namespace Pl
theorem conS_all (n : Nat) (kn : Bool) (old : Int) (p : List Int) (sh : Bool) : conS n n kn old p sh = con0 kn old p sh := by unfold conS; rw [dirsC_all]; rfl
theorem conS_left {n m : Nat} {kn : Bool} {old : Int} {p : List Int} {sh : Bool} (h1 : 1 ≤ m) (h : m < n) (h2 : n ≤ 64) (hk : m ≤ splitN n) : conS n m kn old p sh = conStep (conS (splitN n) m kn old p sh) true := by
  unfold conS
  rw [dirsC_step n m kn h1 h h2, if_pos hk]
  exact conF_snoc _ true _
theorem conS_right {n m : Nat} {kn : Bool} {old : Int} {p : List Int} {sh : Bool} (h1 : 1 ≤ m) (h : m < n) (h2 : n ≤ 64) (hk : ¬ m ≤ splitN n) : conS n m kn old p sh = conStep (conS (n - splitN n) (m - splitN n) false old p sh) false := by
  unfold conS
  rw [dirsC_step n m kn h1 h h2, if_neg hk]
  exact conF_snoc _ false _
theorem conF_digest : ∀ (ds : List Bool) (st : Int × Int × List Int × Bool), isDigestB st.1 = true → isDigestB st.2.1 = true → isDigestB (conF ds st).1 = true ∧ isDigestB (conF ds st).2.1 = true
  | [], _, h1, h2 => ⟨h1, h2⟩
  | d :: ds, st, h1, h2 => by
    show isDigestB (conF ds (conStep st d)).1 = true ∧ isDigestB (conF ds (conStep st d)).2.1 = true
    cases d
    · exact conF_digest ds _ (pairS_digest _ _) (pairS_digest _ _)
    · exact conF_digest ds _ h1 (pairS_digest _ _)
theorem conS_digest (n m : Nat) (kn : Bool) (old : Int) (p : List Int) (sh : Bool) (ho : isDigestB old = true) (hp : ∀ x ∈ p, isDigestB x = true) : isDigestB (conS n m kn old p sh).1 = true ∧ isDigestB (conS n m kn old p sh).2.1 = true := by
  unfold conS
  refine conF_digest _ _ ?_ ?_ <;> unfold con0 <;> split
  · exact ho
  · exact (nextS_digest hp).1
  · exact ho
  · exact (nextS_digest hp).1
end Pl

set_option maxHeartbeats 400000 in
theorem continued_any : ∀ (n : Nat) (m : Nat) (old : Int) (kn : Bool) (r : Nat) (p : List Int) (sh : Bool) (w : World), n ≤ 64 → 1 ≤ m → m ≤ n → Pl.isDigestB old = true → (∀ x ∈ p, Pl.isDigestB x = true) → Rd w r p sh →
    Calls Try.prog 43 #[.pointer (some ⟨r, 0, none⟩), .int .i64 (n : Int), .int .i64 (m : Int), .int .i64 old, .bool kn] w fun e w' =>
      e = .returned (.tuple #[.int .i64 (Pl.conS n m kn old p sh).1, .int .i64 (Pl.conS n m kn old p sh).2.1]) ∧ RdOut r w w' (Pl.conS n m kn old p sh).2.2
  | n, m, old, kn, r, p, sh, w, hn, hm1, hmn, hd, hp, h => by
    by_cases h1 : m = n
    · subst h1
      rw [Pl.conS_all]
      cases kn
      · have hx := (Pl.nextS_digest (sh := sh) hp).2
        go_enter Try.func43, Try.ntmps43
        go_wp2_with fail
        refine (rnext_any r p sh _ h).mono ?_
        rintro e w2 ⟨rfl, rd2, g2⟩
        go_wp2_with fail
        go_ret2
        exact ⟨rfl, rd2, g2, hx⟩
      · go_enter Try.func43, Try.ntmps43
        go_wp2
        go_ret2
        exact ⟨rfl, h, ⟨rfl, rfl, rfl, Nat.le_refl _, fun _ _ _ => rfl⟩, hp⟩
    · have h3 := Pl.splitN_lt (n := n) (by omega) hn
      have it := continued_any (Pl.splitN n) m old kn r p sh w (by omega) hm1
      have id := continued_any (n - Pl.splitN n) (m - Pl.splitN n) old false r p sh w (by omega)
      have rl := Pl.conS_left (kn := kn) (old := old) (p := p) (sh := sh) hm1 (by omega : m < n) hn
      have rr := Pl.conS_right (kn := kn) (old := old) (p := p) (sh := sh) hm1 (by omega : m < n) hn
      replace it := fun hi => it hi hd hp h
      replace id := fun h1 hi => id h1 hi hd hp h
      replace it := Lib.hid it
      replace id := Lib.hid id
      generalize hK : Pl.splitN n = K at *
      have hKe := Lib.hid hK
      have t1 : ((m : Int) == (n : Int)) = false := by rw [beq_eq_false_iff_ne]; omega
      clear hK h h1
      by_cases hik : m ≤ K
      · have tk : decide ((m : Int) ≤ (K : Int)) = true := by simp; omega
        have hdg := (Pl.conS_digest K m kn old p sh hd hp).2
        rw [rl hik]
        obtain ⟨⟨a, b, q, s2⟩, hv⟩ : ∃ st, Pl.conS K m kn old p sh = st := ⟨_, rfl⟩
        rw [hv] at it hdg ⊢
        replace hdg := Lib.hid hdg
        clear rl rr hv hd hp
        go_enter Try.func43, Try.ntmps43
        go_wp2_with fail
        refine (split_any n _ hn).mono ?_
        rintro e w' ⟨rfl, rfl⟩
        rw [hKe.out]
        go_wp2_with fail
        refine (it.out hik).mono ?_
        rintro e w1 ⟨rfl, o1⟩
        go_wp2_with fail
        refine (rnext_any r q s2 _ o1.rd).mono ?_
        rintro e w2 ⟨rfl, rd2, g2⟩
        have hx := Pl.nextS_digest (sh := s2) o1.dig
        go_wp2_with fail
        refine (tpair_any _ _ _ hdg.out hx.1).mono ?_
        rintro e w3 ⟨rfl, hb3⟩
        go_wp2_with fail
        go_ret2
        exact ⟨rfl, rd2.below hb3, grown_trans (grown_trans o1.grown g2) (grown_below hb3 _), hx.2⟩
      · have tk : decide ((m : Int) ≤ (K : Int)) = false := by simp; omega
        rw [rr hik]
        obtain ⟨J, hJ⟩ : ∃ J, m - K = J := ⟨_, rfl⟩
        obtain ⟨N, hN⟩ : ∃ N, n - K = N := ⟨_, rfl⟩
        rw [hJ, hN] at id ⊢
        have hJn : J ≤ N := by omega
        have hJ1 : 1 ≤ J := by omega
        have e1 : (n : Int) - (K : Int) = (N : Int) := by omega
        have e2 : (m : Int) - (K : Int) = (J : Int) := by omega
        have k1 : (K : Int) ≤ (n : Int) := by omega
        have k2 : (K : Int) ≤ (m : Int) := by omega
        have hdg := Pl.conS_digest N J false old p sh hd hp
        obtain ⟨⟨a, b, q, s2⟩, hv⟩ : ∃ st, Pl.conS N J false old p sh = st := ⟨_, rfl⟩
        rw [hv] at id hdg ⊢
        replace hdg := Lib.hid hdg
        clear rl rr hv hd hp hJ hN
        go_enter Try.func43, Try.ntmps43
        go_wp2_with fail
        refine (split_any n _ hn).mono ?_
        rintro e w' ⟨rfl, rfl⟩
        rw [hKe.out]
        go_wp2_with fail
        refine (id.out hJ1 hJn).mono ?_
        rintro e w1 ⟨rfl, o1⟩
        go_wp2_with fail
        refine (rnext_any r q s2 _ o1.rd).mono ?_
        rintro e w2 ⟨rfl, rd2, g2⟩
        have hx := Pl.nextS_digest (sh := s2) o1.dig
        go_wp2_with fail
        refine (tpair_any _ _ _ hx.1 hdg.out.1).mono ?_
        rintro e w3 ⟨rfl, hb3⟩
        go_wp2_with fail
        refine (tpair_any _ _ _ hx.1 hdg.out.2).mono ?_
        rintro e w4 ⟨rfl, hb4⟩
        go_wp2_with fail
        go_ret2
        exact ⟨rfl, (rd2.below hb3).below hb4, grown_trans (grown_trans (grown_trans o1.grown g2) (grown_below hb3 _)) (grown_below hb4 _), hx.2⟩
termination_by n => n
decreasing_by all_goals omega
end Go.Proofs.Ytldepnabkdpokaa
