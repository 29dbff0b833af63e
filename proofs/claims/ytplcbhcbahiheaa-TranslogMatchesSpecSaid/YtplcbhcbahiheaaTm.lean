/- Contracts: the reference's proofs. -/
import Derived.Test.YtplcbhcbahiheaaTl
namespace Go.Proofs.Ytplcbhcbahiheaa
open Go.RowKit

theorem reversed_any (xs : List Int) (oa : Option Addr) (cap : Nat) (w : World) (hs : Sl w oa xs.length cap 1 (intVals xs)) (hn : xs.length ≤ 4096) :
    Calls Try.prog 49 #[.slice oa xs.length cap] w (RetInts xs.reverse w) := by
  go_enter Try.func49, Try.ntmps49
  go_wp2
  go_loopw [3, 4] (fun v i wr => ∃ N : Nat, N ≤ xs.length ∧ i = .int .i64 ((N : Int) - 1) ∧ wr.ownsRow w.heap.size 3 1 v (xs.length - N) (intVals (xs.drop N).reverse) ∧ Below w.heap.size w wr) (fun _ i _ => (intOf i + 1).toNat)
  case atStart => exact ⟨xs.length, Nat.le_refl _, by simp, by rw [Nat.sub_self, List.drop_length]; exact World.ownsRow_nil _ _ _ _, Below.refl _ _⟩
  case round =>
    obtain ⟨N, hN, hi, hown, hbr⟩ := hrel
    have sr := hbr.size
    rcases N with _ | N
    · have hi : u4 = .int .i64 (-1) := hi
      subst hi
      rw [List.drop_zero, Nat.sub_zero, ← List.length_reverse] at hown
      go_wp2
      go_ret
      exact ⟨_, rfl, hown, hbr⟩
    · rw [show ((N + 1 : Nat) : Int) - 1 = (N : Int) by omega] at hi
      subst hi
      have hlt : N < xs.length := hN
      rcases hs.mem with h0 | ⟨b, off, rfl, hltb, hc⟩
      · have : xs = [] := by simpa [intVals] using h0
        rw [this] at hlt
        simp at hlt
      have hcell : wr.cell? ⟨b, off + N, none⟩ = some (.int .i64 xs[N]) := by
        rw [hbr.cell (p := ⟨b, off + N, none⟩) hltb]
        exact hc N _ (intVals_get xs N hlt)
      have HS := Lib.hid (show intVals (xs.drop N).reverse = intVals (xs.drop (N + 1)).reverse ++ [.int .i64 xs[N]] by
        rw [List.drop_eq_getElem_cons hlt, List.reverse_cons, intVals_append]; rfl)
      have HL := Lib.hid (show xs.length - (N + 1) + 1 = xs.length - N by omega)
      clear hc
      go_wp2_with (at_builtin; refine ap1 (by rfl) (by rfl) Try.tInts hbr (by rfl) hown (m := 1) (by rfl) (by rfl) (by rfl) (by omega) sr ?_; intro v1 w2 hown1 hb1 hsz1)
      go_roundw
      case rel => exact ⟨N, by omega, by go_num, by rw [HS.out, ← HL.out]; exact hown1, hb1⟩
      case measure => (simp [intOf]; try omega)

set_option maxRecDepth 100000 in
set_option maxHeartbeats 800000 in
theorem LogProof_any (xs : List Int) (i : Nat) (oa : Option Addr) (cap : Nat) (w : World) (hs : Sl w oa xs.length cap 1 (intVals xs)) (hn : xs.length ≤ 64) (hi : i < xs.length) (hd : ∀ x ∈ xs, Pl.isDigestB x = true) :
    Calls Try.prog 22 #[.slice oa xs.length cap, .int .i64 (i : Int)] w (RetInts (Pl.proveS xs i) w) := by
  obtain ⟨T, hT⟩ : ∃ T, Pl.proveS xs i = T := ⟨_, rfl⟩
  rw [hT]
  have st := Lib.hid (show Pl.proveS xs i ++ ([] : List Int).reverse = T by rw [hT]; simp)
  replace hd := Lib.hid hd
  clear hT
  go_enter Try.func22, Try.ntmps22
  go_wp2
  go_loopw [0, 1, 5] (fun v u d wr => ∃ (l : List Int) (k : Nat) (o : Option Addr) (c : Nat) (D : List Int), v = .slice o l.length c ∧ u = .int .i64 (k : Int) ∧ Sl w o l.length c 1 (intVals l) ∧ k < l.length ∧ l.length + D.length ≤ 64 ∧ Hid (∀ x ∈ l, Pl.isDigestB x = true) ∧ wr.ownsRow w.heap.size 3 1 d D.length (intVals D) ∧ Below w.heap.size w wr ∧ Hid (Pl.proveS l k ++ D.reverse = T)) (fun v _ _ _ => match v with | .slice _ n _ => n | _ => 0)
  case atStart => exact ⟨xs, i, oa, cap, [], rfl, rfl, hs, hi, by simpa using hn, hd, World.ownsRow_nil _ _ _ _, Below.refl _ _, st⟩
  case round =>
    obtain ⟨l, k, o, c, D, rfl, rfl, hsl, hk, hlD, hdl, hown, hbr, hinv⟩ := hrel
    have sr := hbr.size
    have hcap := hsl.hcap
    have hmax := hsl.hmax
    unfold maxLen at hmax
    by_cases h1 : l.length ≤ 1
    · have hT : D.reverse = T := by
        have := hinv.out
        rw [Pl.proveS_one l k h1] at this
        exact this
      replace hT := Lib.hid hT
      obtain ⟨od, cd, rfl⟩ := own_slice hown
      have sD := Sl.own hown
      have hl1 : (l.length : Int) ≤ 1 := by omega
      clear hinv hown hsl
      go_wp2_with fail
      refine (reversed_any D od cd _ sD (by omega)).mono ?_
      rintro e w2 ⟨v2, rfl, own2, hb2⟩
      have B2 := bcall hbr hb2 sr
      rw [hT.out] at own2
      go_wp2_with fail
      go_ret
      exact ⟨_, rfl, own_base own2 sr, B2⟩
    · rcases hsl.mem with h0 | ⟨b, off, rfl, hltb, hc⟩
      · have : l = [] := by simpa [intVals] using h0
        rw [this] at hk
        simp at hk
      clear hc
      have h3 := Pl.splitN_lt (n := l.length) (by omega) (by omega)
      have hstep := Pl.proveS_step l k (by omega) (by omega)
      have slt := hsl.take (k := Pl.splitN l.length) (by omega)
      have sld := hsl.drop (k := Pl.splitN l.length) (by omega) (oa := some ⟨b, off + Pl.splitN l.length, none⟩) (fun _ => rfl)
      have dt := Lib.hid (fun x (hx : x ∈ l.take (Pl.splitN l.length)) => hdl.out x (List.mem_of_mem_take hx))
      have dd := Lib.hid (fun x (hx : x ∈ l.drop (Pl.splitN l.length)) => hdl.out x (List.mem_of_mem_drop hx))
      have lt : (l.take (Pl.splitN l.length)).length = Pl.splitN l.length := by rw [List.length_take]; omega
      have ld : (l.drop (Pl.splitN l.length)).length = l.length - Pl.splitN l.length := by rw [List.length_drop]
      obtain ⟨n, hn0⟩ : ∃ n, l.length = n := ⟨_, rfl⟩
      obtain ⟨K, hK⟩ : ∃ K, Pl.splitN n = K := ⟨_, rfl⟩
      rw [hn0] at hk hlD hcap h1 h3 hstep slt sld dt dd lt ld ⊢
      rw [hK] at h3 hstep slt sld dt dd lt ld
      obtain ⟨lt', hlt'⟩ : ∃ lt', l.take K = lt' := ⟨_, rfl⟩
      obtain ⟨ld', hld'⟩ : ∃ ld', l.drop K = ld' := ⟨_, rfl⟩
      rw [hlt'] at hstep slt dt lt
      rw [hld'] at hstep sld dd ld
      have hKe := Lib.hid hK
      have n2 : (1 : Int) < (n : Int) := by omega
      have k0 : (0 : Int) ≤ (K : Int) := by omega
      have k1 : (K : Int) ≤ (n : Int) := by omega
      replace hinv := hinv.out
      rw [hstep] at hinv
      clear hstep hn0 hK hlt' hld' hsl hdl
      by_cases hik : k < K
      · have tk : decide ((k : Int) < (K : Int)) = true := by simp; omega
        rw [if_pos hik, List.append_assoc] at hinv
        have H := Lib.hid (fun (d : Value) (wx : World) (ho : wx.ownsRow w.heap.size 3 1 d (D.length + 1) (intVals D ++ [.int .i64 (Pl.rootS ld')])) (hb : Below w.heap.size w wx) => (show ∃ (l : List Int) (k' : Nat) (o : Option Addr) (c' : Nat) (D : List Int), Value.slice (some ⟨b, off, none⟩) K c = .slice o l.length c' ∧ Value.int .i64 (k : Int) = .int .i64 (k' : Int) ∧ Sl w o l.length c' 1 (intVals l) ∧ k' < l.length ∧ l.length + D.length ≤ 64 ∧ Hid (∀ x ∈ l, Pl.isDigestB x = true) ∧ wx.ownsRow w.heap.size 3 1 d D.length (intVals D) ∧ Below w.heap.size w wx ∧ Hid (Pl.proveS l k' ++ D.reverse = T) from
          ⟨lt', k, _, c, D ++ [Pl.rootS ld'], by rw [lt], rfl, slt, by omega, by simp; omega, dt, by rw [List.length_append, intVals_append]; exact ho, hb, by simpa [Hid] using hinv⟩))
        have RD := Lib.hid (fun w hw => LogRoot_any ld' (some ⟨b, off + K, none⟩) (c - K) w hw (by omega) dd.out)
        rw [ld] at RD sld
        have hD := hown.1
        clear hinv slt dt dd lt ld
        go_wp2_with fail
        refine (Power_any n _ (by omega)).mono ?_
        rintro e w' ⟨rfl, rfl⟩
        rw [hKe.out]
        go_wp2_with fail
        refine (RD.out _ (sld.below hbr (Nat.le_refl _))).mono ?_
        rintro e w2 ⟨rfl, hb2⟩
        have B2 := bcall hbr hb2 sr
        have s2 := B2.size
        have own2 := ownsRow_below hown hb2 (Nat.le_refl _)
        go_wp2_with (at_builtin; refine ap1 (by rfl) (by rfl) Try.tInts B2 (by rfl) own2 (m := 1) (by rfl) (by rfl) (by rfl) (by omega) s2 ?_; intro v3 w3 own3 B3 s3)
        go_roundw
        case rel => exact H.out _ _ own3 B3
        case measure => show K < n; omega
      · have tk : decide ((k : Int) < (K : Int)) = false := by simp; omega
        rw [if_neg hik, List.append_assoc] at hinv
        obtain ⟨J, hJ⟩ : ∃ J, k - K = J := ⟨_, rfl⟩
        rw [hJ] at hinv
        have e2 : (k : Int) - (K : Int) = (J : Int) := by omega
        have H := Lib.hid (fun (d : Value) (wx : World) (ho : wx.ownsRow w.heap.size 3 1 d (D.length + 1) (intVals D ++ [.int .i64 (Pl.rootS lt')])) (hb : Below w.heap.size w wx) => (show ∃ (l : List Int) (k' : Nat) (o : Option Addr) (c' : Nat) (D : List Int), Value.slice (some ⟨b, off + K, none⟩) (n - K) (c - K) = .slice o l.length c' ∧ Value.int .i64 (J : Int) = .int .i64 (k' : Int) ∧ Sl w o l.length c' 1 (intVals l) ∧ k' < l.length ∧ l.length + D.length ≤ 64 ∧ Hid (∀ x ∈ l, Pl.isDigestB x = true) ∧ wx.ownsRow w.heap.size 3 1 d D.length (intVals D) ∧ Below w.heap.size w wx ∧ Hid (Pl.proveS l k' ++ D.reverse = T) from
          ⟨ld', J, _, c - K, D ++ [Pl.rootS lt'], by rw [ld], rfl, sld, by omega, by simp; omega, dd, by rw [List.length_append, intVals_append]; exact ho, hb, by simpa [Hid] using hinv⟩))
        have RD := Lib.hid (fun w hw => LogRoot_any lt' (some ⟨b, off, none⟩) c w hw (by omega) dt.out)
        rw [lt] at RD slt
        have hD := hown.1
        have kk : (K : Int) ≤ (k : Int) := by omega
        clear hinv sld dt dd lt ld hJ
        go_wp2_with fail
        refine (Power_any n _ (by omega)).mono ?_
        rintro e w' ⟨rfl, rfl⟩
        rw [hKe.out]
        go_wp2_with fail
        refine (RD.out _ (slt.below hbr (Nat.le_refl _))).mono ?_
        rintro e w2 ⟨rfl, hb2⟩
        have B2 := bcall hbr hb2 sr
        have s2 := B2.size
        have own2 := ownsRow_below hown hb2 (Nat.le_refl _)
        go_wp2_with (at_builtin; refine ap1 (by rfl) (by rfl) Try.tInts B2 (by rfl) own2 (m := 1) (by rfl) (by rfl) (by rfl) (by omega) s2 ?_; intro v3 w3 own3 B3 s3)
        go_roundw
        case rel => exact H.out _ _ own3 B3
        case measure => show n - K < n; omega
end Go.Proofs.Ytplcbhcbahiheaa
