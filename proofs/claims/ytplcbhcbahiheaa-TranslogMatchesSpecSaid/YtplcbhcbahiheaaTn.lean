/- Contract: the reference's consistency proofs. -/
import Derived.Test.YtplcbhcbahiheaaTm
namespace Go.Proofs.Ytplcbhcbahiheaa
open Go.RowKit

set_option maxRecDepth 100000 in
set_option maxHeartbeats 800000 in
theorem LogContinues_any (xs : List Int) (i : Nat) (oa : Option Addr) (cap : Nat) (w : World) (hs : Sl w oa xs.length cap 1 (intVals xs)) (hn : xs.length ≤ 64) (hi1 : 1 ≤ i) (hi : i ≤ xs.length) (hd : ∀ x ∈ xs, Pl.isDigestB x = true) :
    Calls Try.prog 24 #[.slice oa xs.length cap, .int .i64 (i : Int)] w (RetInts (Pl.consS xs i true) w) := by
  obtain ⟨T, hT⟩ : ∃ T, Pl.consS xs i true = T := ⟨_, rfl⟩
  rw [hT]
  have st := Lib.hid (show Pl.consS xs i true ++ ([] : List Int).reverse = T by rw [hT]; simp)
  replace hd := Lib.hid hd
  clear hT
  go_enter Try.func24, Try.ntmps24
  go_wp2
  go_loopw [0, 1, 5, 6] (fun v u d q wr => ∃ (l : List Int) (k : Nat) (o : Option Addr) (c : Nat) (D : List Int) (kn : Bool), v = .slice o l.length c ∧ u = .int .i64 (k : Int) ∧ q = .bool kn ∧ Sl w o l.length c 1 (intVals l) ∧ 1 ≤ k ∧ k ≤ l.length ∧ l.length + D.length ≤ 64 ∧ Hid (∀ x ∈ l, Pl.isDigestB x = true) ∧ wr.ownsRow w.heap.size 3 1 d D.length (intVals D) ∧ Below w.heap.size w wr ∧ Hid (Pl.consS l k kn ++ D.reverse = T)) (fun v _ _ _ _ => match v with | .slice _ n _ => n | _ => 0)
  case atStart => exact ⟨xs, i, oa, cap, [], true, rfl, rfl, rfl, hs, hi1, hi, by simpa using hn, hd, World.ownsRow_nil _ _ _ _, Below.refl _ _, st⟩
  case round =>
    obtain ⟨l, k, o, c, D, kn, rfl, rfl, rfl, hsl, hk1, hk, hlD, hdl, hown, hbr, hinv⟩ := hrel
    have sr := hbr.size
    have hcap := hsl.hcap
    have hmax := hsl.hmax
    unfold maxLen at hmax
    by_cases h1 : k = l.length
    · subst h1
      have hi2 := hinv.out
      rw [Pl.consS_all] at hi2
      obtain ⟨od, cd, rfl⟩ := own_slice hown
      cases kn
      · have hT : (D ++ [Pl.rootS l]).reverse = T := by simpa using hi2
        replace hT := Lib.hid hT
        have RD := Lib.hid (fun w hw => LogRoot_any l o c w hw (by omega) hdl.out)
        have hD := hown.1
        clear hinv hi2
        go_wp2_with fail
        refine (RD.out _ (hsl.below hbr (Nat.le_refl _))).mono ?_
        rintro e w2 ⟨rfl, hb2⟩
        have B2 := bcall hbr hb2 sr
        have s2 := B2.size
        have own2 := ownsRow_below hown hb2 (Nat.le_refl _)
        go_wp2_with (at_builtin; refine ap1 (by rfl) (by rfl) Try.tInts B2 (by rfl) own2 (m := 1) (by rfl) (by rfl) (by rfl) (by omega) s2 ?_; intro v3 w3 own3 B3 s3; obtain ⟨o3, c3, rfl⟩ := own_slice own3)
        have own4 : w3.ownsRow w.heap.size 3 1 (.slice o3 (D.length + 1) c3) (D ++ [Pl.rootS l]).length (intVals (D ++ [Pl.rootS l])) := by rw [List.length_append, intVals_append]; exact own3
        have sD : Sl w3 o3 (D ++ [Pl.rootS l]).length c3 1 (intVals (D ++ [Pl.rootS l])) := by
          have := Sl.own own3
          rw [List.length_append, intVals_append]
          exact this
        have rv := reversed_any (D ++ [Pl.rootS l]) o3 c3 _ sD (by simp; omega)
        rw [List.length_append] at rv
        have s3 := B3.size
        clear own3 own4
        refine rv.mono ?_
        rintro e w4 ⟨v4, rfl, own5, hb4⟩
        have B4 := bcall B3 hb4 s3
        rw [hT.out] at own5
        go_wp2_with fail
        go_ret
        exact ⟨_, rfl, own_base own5 s3, B4⟩
      · have hT : D.reverse = T := by simpa using hi2
        replace hT := Lib.hid hT
        have sD := Sl.own hown
        clear hinv hown hsl hi2
        go_wp2_with fail
        refine (reversed_any D od cd _ sD (by omega)).mono ?_
        rintro e w2 ⟨v2, rfl, own2, hb2⟩
        have B2 := bcall hbr hb2 sr
        rw [hT.out] at own2
        go_wp2_with fail
        go_ret
        exact ⟨_, rfl, own_base own2 sr, B2⟩
    · rcases hsl.mem with h0 | ⟨b, off, rfl, hltb, hc⟩
      · have : l = [] := by simpa [intVals] using h0
        rw [this] at hk
        simp at hk
        omega
      clear hc
      have h3 := Pl.splitN_lt (n := l.length) (by omega) (by omega)
      have hstep := Pl.consS_step l k kn hk1 (by omega) (by omega)
      have slt := hsl.take (k := Pl.splitN l.length) (by omega)
      have sld := hsl.drop (k := Pl.splitN l.length) (by omega) (oa := some ⟨b, off + Pl.splitN l.length, none⟩) (fun _ => rfl)
      have dt := Lib.hid (fun x (hx : x ∈ l.take (Pl.splitN l.length)) => hdl.out x (List.mem_of_mem_take hx))
      have dd := Lib.hid (fun x (hx : x ∈ l.drop (Pl.splitN l.length)) => hdl.out x (List.mem_of_mem_drop hx))
      have lt : (l.take (Pl.splitN l.length)).length = Pl.splitN l.length := by rw [List.length_take]; omega
      have ld : (l.drop (Pl.splitN l.length)).length = l.length - Pl.splitN l.length := by rw [List.length_drop]
      obtain ⟨n, hn0⟩ : ∃ n, l.length = n := ⟨_, rfl⟩
      obtain ⟨K, hK⟩ : ∃ K, Pl.splitN n = K := ⟨_, rfl⟩
      rw [hn0] at hk hlD hcap h1 h3 hstep slt sld dt dd lt ld ⊢
      rw [hK] at h3 hstep slt sld dt dd lt ld
      obtain ⟨lt', hlt'⟩ : ∃ lt', l.take K = lt' := ⟨_, rfl⟩
      obtain ⟨ld', hld'⟩ : ∃ ld', l.drop K = ld' := ⟨_, rfl⟩
      rw [hlt'] at hstep slt dt lt
      rw [hld'] at hstep sld dd ld
      have hKe := Lib.hid hK
      have n2 : (k : Int) < (n : Int) := by omega
      have k0 : (0 : Int) ≤ (K : Int) := by omega
      have k1 : (K : Int) ≤ (n : Int) := by omega
      replace hinv := hinv.out
      rw [hstep] at hinv
      clear hstep hn0 hK hlt' hld' hsl hdl
      by_cases hik : k ≤ K
      · have tk : decide ((k : Int) ≤ (K : Int)) = true := by simp; omega
        rw [if_pos hik, List.append_assoc] at hinv
        have H := Lib.hid (fun (d : Value) (wx : World) (ho : wx.ownsRow w.heap.size 3 1 d (D.length + 1) (intVals D ++ [.int .i64 (Pl.rootS ld')])) (hb : Below w.heap.size w wx) => (show ∃ (l : List Int) (k' : Nat) (o : Option Addr) (c' : Nat) (D : List Int) (kn' : Bool), Value.slice (some ⟨b, off, none⟩) K c = .slice o l.length c' ∧ Value.int .i64 (k : Int) = .int .i64 (k' : Int) ∧ Value.bool kn = .bool kn' ∧ Sl w o l.length c' 1 (intVals l) ∧ 1 ≤ k' ∧ k' ≤ l.length ∧ l.length + D.length ≤ 64 ∧ Hid (∀ x ∈ l, Pl.isDigestB x = true) ∧ wx.ownsRow w.heap.size 3 1 d D.length (intVals D) ∧ Below w.heap.size w wx ∧ Hid (Pl.consS l k' kn' ++ D.reverse = T) from
          ⟨lt', k, _, c, D ++ [Pl.rootS ld'], kn, by rw [lt], rfl, rfl, slt, hk1, by omega, by simp; omega, dt, by rw [List.length_append, intVals_append]; exact ho, hb, by simpa [Hid] using hinv⟩))
        have RD := Lib.hid (fun w hw => LogRoot_any ld' (some ⟨b, off + K, none⟩) (c - K) w hw (by omega) dd.out)
        rw [ld] at RD sld
        have hD := hown.1
        clear hinv slt dt dd lt ld
        go_wp2_with fail
        refine (Power_any n _ (by omega)).mono ?_
        rintro e w' ⟨rfl, rfl⟩
        rw [hKe.out]
        go_wp2_with fail
        refine (RD.out _ (sld.below hbr (Nat.le_refl _))).mono ?_
        rintro e w2 ⟨rfl, hb2⟩
        have B2 := bcall hbr hb2 sr
        have s2 := B2.size
        have own2 := ownsRow_below hown hb2 (Nat.le_refl _)
        go_wp2_with (at_builtin; refine ap1 (by rfl) (by rfl) Try.tInts B2 (by rfl) own2 (m := 1) (by rfl) (by rfl) (by rfl) (by omega) s2 ?_; intro v3 w3 own3 B3 s3)
        go_roundw
        case rel => exact H.out _ _ own3 B3
        case measure => show K < n; omega
      · have tk : decide ((k : Int) ≤ (K : Int)) = false := by simp; omega
        rw [if_neg hik, List.append_assoc] at hinv
        obtain ⟨J, hJ⟩ : ∃ J, k - K = J := ⟨_, rfl⟩
        rw [hJ] at hinv
        have e2 : (k : Int) - (K : Int) = (J : Int) := by omega
        have H := Lib.hid (fun (d : Value) (wx : World) (ho : wx.ownsRow w.heap.size 3 1 d (D.length + 1) (intVals D ++ [.int .i64 (Pl.rootS lt')])) (hb : Below w.heap.size w wx) => (show ∃ (l : List Int) (k' : Nat) (o : Option Addr) (c' : Nat) (D : List Int) (kn' : Bool), Value.slice (some ⟨b, off + K, none⟩) (n - K) (c - K) = .slice o l.length c' ∧ Value.int .i64 (J : Int) = .int .i64 (k' : Int) ∧ Value.bool false = .bool kn' ∧ Sl w o l.length c' 1 (intVals l) ∧ 1 ≤ k' ∧ k' ≤ l.length ∧ l.length + D.length ≤ 64 ∧ Hid (∀ x ∈ l, Pl.isDigestB x = true) ∧ wx.ownsRow w.heap.size 3 1 d D.length (intVals D) ∧ Below w.heap.size w wx ∧ Hid (Pl.consS l k' kn' ++ D.reverse = T) from
          ⟨ld', J, _, c - K, D ++ [Pl.rootS lt'], false, by rw [ld], rfl, rfl, sld, by omega, by omega, by simp; omega, dd, by rw [List.length_append, intVals_append]; exact ho, hb, by simpa [Hid] using hinv⟩))
        have RD := Lib.hid (fun w hw => LogRoot_any lt' (some ⟨b, off, none⟩) c w hw (by omega) dt.out)
        rw [lt] at RD slt
        have hD := hown.1
        have kk : (K : Int) ≤ (k : Int) := by omega
        clear hinv sld dt dd lt ld hJ
        go_wp2_with fail
        refine (Power_any n _ (by omega)).mono ?_
        rintro e w' ⟨rfl, rfl⟩
        rw [hKe.out]
        go_wp2_with fail
        refine (RD.out _ (slt.below hbr (Nat.le_refl _))).mono ?_
        rintro e w2 ⟨rfl, hb2⟩
        have B2 := bcall hbr hb2 sr
        have s2 := B2.size
        have own2 := ownsRow_below hown hb2 (Nat.le_refl _)
        go_wp2_with (at_builtin; refine ap1 (by rfl) (by rfl) Try.tInts B2 (by rfl) own2 (m := 1) (by rfl) (by rfl) (by rfl) (by omega) s2 ?_; intro v3 w3 own3 B3 s3)
        go_roundw
        case rel => exact H.out _ _ own3 B3
        case measure => show n - K < n; omega
end Go.Proofs.Ytplcbhcbahiheaa
