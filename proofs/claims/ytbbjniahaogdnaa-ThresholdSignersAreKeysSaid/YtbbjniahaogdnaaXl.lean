/- The law ThresholdSignersSuffice returns true. -/
import Derived.Test.YtbbjniahaogdnaaXk
namespace Go.Proofs.Ytbbjniahaogdnaa
open Go.RowKit

theorem Pl.signAll_snoc (l : List UInt8) (xs : List Int) (k : Nat) (h : k < xs.length) : Pl.signAll l (xs.take (k + 1)) = Pl.signAll l (xs.take k) ++ [(xs[k], Pl.signS xs[k] l)] := by
  unfold Pl.signAll
  rw [List.take_succ_eq_append_getElem h, List.map_append]
  rfl
theorem Pl.signAll_length (l : List UInt8) (xs : List Int) : (Pl.signAll l xs).length = xs.length := by simp [Pl.signAll]

set_option maxHeartbeats 400000 in
theorem ThresholdSignersSuffice_ok (need n : Int) (xs : List Int) (l : List UInt8) (oa ob : Option Addr) (ca cb : Nat) (w : World) (hs : Sl w oa xs.length ca 1 (intVals xs)) (hm : xs.length ≤ 9223372036854775807)
    (hb : Sl w ob l.length cb 1 (byteVals l)) (hm2 : l.length ≤ 9223372036854775807)
    (ht : (Pl.thrF xs need).1 = 0) (hl : l.length ≤ 4096) (h0 : 0 ≤ n) (h1 : n ≤ (xs.length : Int)) :
    Calls Try.prog 11 #[.slice oa xs.length ca, .int .i64 need, .slice ob l.length cb, .int .i64 n] w fun e w' => e = .returned (.bool true) ∧ Below w.heap.size w w' := by
  obtain ⟨n, rfl⟩ := Int.eq_ofNat_of_zero_le h0
  have hn : n ≤ xs.length := by omega
  have hx : 0 < xs.length := by have := (Pl.thrF_zero.1 ht).2; omega
  have P := Pl.sufficient (n := n) ht hl hn (fun k _ => Pl.signS_digest k l)
  have hK : Pl.Keys xs := by
    rcases Pl.thrF_cases xs need with ⟨_, _, h, _⟩ | h
    · exact h
    · exact absurd ht h
  have h12 := hK.len
  have hin : Pl.inB (n : Int) 0 (xs.length : Int) = true := Pl.inB_true.2 ⟨h0, h1⟩
  obtain ⟨T, hT⟩ : ∃ T, Pl.thrF xs need = T := ⟨_, rfl⟩
  rw [hT] at ht
  have t2 : (T.1 != 0) = false := by simp [ht]
  have t3 : decide ((l.length : Int) > 4096) = false := by simp; omega
  obtain ⟨P1, P2⟩ := P
  replace P1 := Lib.hid P1
  replace P2 := Lib.hid P2
  replace hK := Lib.hid hK
  replace hin := Lib.hid hin
  replace hT := Lib.hid hT
  clear ht h0 h1
  go_enter Try.func11, Try.ntmps11
  go_wp2_with fail
  refine (accepts_any _).mono ?_
  rintro e w1 ⟨rfl, hb1⟩
  have B1 : Below w.heap.size w w1 := bcall (by go_grown) hb1 (by go_size)
  have s1 := B1.size
  have q1 : w.heap.size ≤ w1.heap.size := by have h := hb1.size; first | omega | (simp at h; omega)
  clear hb1
  go_wp2_with fail
  refine (ThresholdFault_any xs need oa ca _ (hs.below (by go_grown) (Nat.le_refl _)) hm).mono ?_
  rw [hT.out]
  rintro e w2 ⟨rfl, hb2⟩
  have B2 : Below w.heap.size w w2 := bcall (by go_grown) hb2 (by go_size)
  have s2 := B2.size
  have q2 : w1.heap.size ≤ w2.heap.size := by have h := hb2.size; first | omega | (simp at h; omega)
  clear hb2
  go_wp2_with fail
  refine (lin_any _ _ _ _).mono ?_
  rw [hin.out]
  rintro e w' ⟨rfl, rfl⟩
  go_wp2_with fail
  rcases hs.mem with h0 | ⟨b, off, rfl, hlt, hc⟩
  · have hl0 : xs = [] := by simpa [intVals] using h0
    rw [hl0] at hx
    exact absurd hx (by decide)
  go_loopw [9, 10] (fun v i wr => ∃ k : Nat, k ≤ n ∧ i = .int .i64 k ∧ wr.ownsRow w.heap.size 54 2 v k (pairVals (Pl.signAll l (xs.take k))) ∧ Below w.heap.size w wr) (fun _ i _ => n - (intOf i).toNat)
  case atStart => exact ⟨0, Nat.zero_le _, rfl, World.ownsRow_nil _ _ _ _, B2⟩
  case round =>
    obtain ⟨k, hk, rfl, hown, hbr⟩ := hrel
    have sr := hbr.size
    by_cases hkn : k < n
    · have hlt2 : k < xs.length := by omega
      have hcell : wr.cell? ⟨b, off + k, none⟩ = some (.int .i64 xs[k]) := by
        rw [hbr.cell (p := ⟨b, off + k, none⟩) hlt]
        exact hc k _ (intVals_get xs k hlt2)
      have hkey := Lib.hid (hK.out.mem (List.getElem_mem hlt2))
      have HS := Lib.hid (Pl.signAll_snoc l xs k hlt2)
      have k1 : (k : Int) < (xs.length : Int) := by omega
      clear hc
      obtain ⟨N, hN⟩ : ∃ N, xs[k] = N := ⟨_, rfl⟩
      rw [hN] at hcell hkey HS
      clear hN
      go_wp2_with fail
      refine (Sign_ok N l ob cb _ (hb.below hbr (Nat.le_refl _)) hkey.out hl).mono ?_
      rintro e w5 ⟨rfl, hb5⟩
      have hb6 := bcall hbr hb5 sr
      have s6 := hb6.size
      have hown5 := (ownsRow_below hown hb5 (Nat.le_refl _)).alloc (.cells #[.int .i64 0, .int .i64 0] 26)
      have hcell5 : w5.cell? ⟨b, off + k, none⟩ = some (.int .i64 N) := (hb5.cell (p := ⟨b, off + k, none⟩) (Nat.lt_of_lt_of_le hlt sr)).trans hcell
      have hlt5 : b < w5.heap.size := by omega
      have hb7 := hb6.alloc s6 (.cells #[.int .i64 0, .int .i64 0] 26)
      have s7 := hb7.size
      obtain ⟨S, hSg⟩ : ∃ S, Pl.signS N l = S := ⟨_, rfl⟩
      rw [hSg] at HS ⊢
      clear hcell hown hb5 hb6 hSg
      go_wp2_with (at_builtin; refine ap1g (by rfl) (by rfl) Try.tSigs hb7 (by rfl) hown5 (g := w5.heap.size + 1) (m := 1) (by simp) (by rfl) (by rfl) (by rfl) (by omega) s7 ?_; intro v1 w6 hown6 hb8 hsz6)
      go_roundw
      case rel => exact ⟨k + 1, hkn, by go_num, by rw [HS.out, pairVals_append]; exact hown6, hb8⟩
      case measure => (simp [intOf]; try omega)
    · obtain rfl : k = n := by omega
      obtain ⟨S, hS⟩ : ∃ S, Pl.signAll l (xs.take k) = S := ⟨_, rfl⟩
      have hSl : S.length = k := by rw [← hS, Pl.signAll_length, List.length_take]; omega
      have p1 := P1.out
      have p2 := P2.out
      rw [hS] at hown p1 p2
      rw [← hSl] at hown
      obtain ⟨F, hF⟩ : ∃ F, Pl.accF xs need l.length S = F := ⟨_, rfl⟩
      rw [hF] at p1
      have t4 : (F.1 == 0) = true := by simp [p1]
      have t5 : (F.1 != 0) = false := by simp [p1]
      obtain ⟨o0, c0, rfl⟩ := own_slice hown
      have slb := Sl.own hown
      have hS24 : S.length ≤ 12 := by omega
      replace hF := Lib.hid hF
      replace p2 := Lib.hid p2
      replace hSl := Lib.hid hSl
      clear hown p1 hS hc
      go_wp2_with fail
      refine (Accept_any xs need l S _ ob o0 ca cb c0 _ (hs.below (by go_grown) (Nat.le_refl _)) hm (hb.below (by go_grown) (Nat.le_refl _)) hm2 (slb.below (by go_grown) (Nat.le_refl _)) (by omega)).mono ?_
      rw [p2.out, hF.out]
      rintro e w3 ⟨rfl, hb3⟩
      have B3 : Below w.heap.size w w3 := bcall (by go_grown) hb3 (by go_size)
      have s3 := B3.size
      have q3 : wr.heap.size ≤ w3.heap.size := by have h := hb3.size; first | omega | (simp at h; omega)
      clear hb3
      go_wp2_with fail
      go_ret
      exact ⟨ret_true (by simp), by go_grown⟩
theorem ThresholdSignersSuffice_t (need n : Int) (xs : List Int) (l : List UInt8) (oa ob : Option Addr) (ca cb : Nat) (w : World) (hs : Sl w oa xs.length ca 1 (intVals xs)) (hm : xs.length ≤ 9223372036854775807)
    (hb : Sl w ob l.length cb 1 (byteVals l)) (hm2 : l.length ≤ 9223372036854775807)
    (ht : (Pl.thrF xs need).1 ≠ 0) :
    Calls Try.prog 11 #[.slice oa xs.length ca, .int .i64 need, .slice ob l.length cb, .int .i64 n] w fun e w' => e = .returned (.bool true) ∧ Below w.heap.size w w' := by
  obtain ⟨T, hT⟩ : ∃ T, Pl.thrF xs need = T := ⟨_, rfl⟩
  rw [hT] at ht
  replace hT := Lib.hid hT
  have t2 : (T.1 != 0) = true := by simp [ht]
  clear ht
  go_enter Try.func11, Try.ntmps11
  go_wp2_with fail
  refine (accepts_any _).mono ?_
  rintro e w1 ⟨rfl, hb1⟩
  have B1 : Below w.heap.size w w1 := bcall (by go_grown) hb1 (by go_size)
  have s1 := B1.size
  have q1 : w.heap.size ≤ w1.heap.size := by have h := hb1.size; first | omega | (simp at h; omega)
  clear hb1
  go_wp2_with fail
  refine (ThresholdFault_any xs need oa ca _ (hs.below (by go_grown) (Nat.le_refl _)) hm).mono ?_
  rw [hT.out]
  rintro e w2 ⟨rfl, hb2⟩
  have B2 : Below w.heap.size w w2 := bcall (by go_grown) hb2 (by go_size)
  have s2 := B2.size
  have q2 : w1.heap.size ≤ w2.heap.size := by have h := hb2.size; first | omega | (simp at h; omega)
  clear hb2
  go_wp2_with fail
  go_ret
  exact ⟨ret_true (by simp), by go_grown⟩
theorem ThresholdSignersSuffice_l (need n : Int) (xs : List Int) (l : List UInt8) (oa ob : Option Addr) (ca cb : Nat) (w : World) (hs : Sl w oa xs.length ca 1 (intVals xs)) (hm : xs.length ≤ 9223372036854775807)
    (hb : Sl w ob l.length cb 1 (byteVals l)) (hm2 : l.length ≤ 9223372036854775807)
    (ht : (Pl.thrF xs need).1 = 0) (hl : ¬ l.length ≤ 4096) :
    Calls Try.prog 11 #[.slice oa xs.length ca, .int .i64 need, .slice ob l.length cb, .int .i64 n] w fun e w' => e = .returned (.bool true) ∧ Below w.heap.size w w' := by
  obtain ⟨T, hT⟩ : ∃ T, Pl.thrF xs need = T := ⟨_, rfl⟩
  rw [hT] at ht
  replace hT := Lib.hid hT
  have t2 : (T.1 != 0) = false := by simp [ht]
  have t3 : decide ((l.length : Int) > 4096) = true := by simp; omega
  clear ht hl
  go_enter Try.func11, Try.ntmps11
  go_wp2_with fail
  refine (accepts_any _).mono ?_
  rintro e w1 ⟨rfl, hb1⟩
  have B1 : Below w.heap.size w w1 := bcall (by go_grown) hb1 (by go_size)
  have s1 := B1.size
  have q1 : w.heap.size ≤ w1.heap.size := by have h := hb1.size; first | omega | (simp at h; omega)
  clear hb1
  go_wp2_with fail
  refine (ThresholdFault_any xs need oa ca _ (hs.below (by go_grown) (Nat.le_refl _)) hm).mono ?_
  rw [hT.out]
  rintro e w2 ⟨rfl, hb2⟩
  have B2 : Below w.heap.size w w2 := bcall (by go_grown) hb2 (by go_size)
  have s2 := B2.size
  have q2 : w1.heap.size ≤ w2.heap.size := by have h := hb2.size; first | omega | (simp at h; omega)
  clear hb2
  go_wp2_with fail
  go_ret
  exact ⟨ret_true (by simp), by go_grown⟩
theorem ThresholdSignersSuffice_n (need n : Int) (xs : List Int) (l : List UInt8) (oa ob : Option Addr) (ca cb : Nat) (w : World) (hs : Sl w oa xs.length ca 1 (intVals xs)) (hm : xs.length ≤ 9223372036854775807)
    (hb : Sl w ob l.length cb 1 (byteVals l)) (hm2 : l.length ≤ 9223372036854775807)
    (ht : (Pl.thrF xs need).1 = 0) (hl : l.length ≤ 4096) (hin : Pl.inB n 0 (xs.length : Int) = false) :
    Calls Try.prog 11 #[.slice oa xs.length ca, .int .i64 need, .slice ob l.length cb, .int .i64 n] w fun e w' => e = .returned (.bool true) ∧ Below w.heap.size w w' := by
  obtain ⟨T, hT⟩ : ∃ T, Pl.thrF xs need = T := ⟨_, rfl⟩
  rw [hT] at ht
  replace hT := Lib.hid hT
  have t2 : (T.1 != 0) = false := by simp [ht]
  have t3 : decide ((l.length : Int) > 4096) = false := by simp; omega
  replace hin := Lib.hid hin
  clear ht hl
  go_enter Try.func11, Try.ntmps11
  go_wp2_with fail
  refine (accepts_any _).mono ?_
  rintro e w1 ⟨rfl, hb1⟩
  have B1 : Below w.heap.size w w1 := bcall (by go_grown) hb1 (by go_size)
  have s1 := B1.size
  have q1 : w.heap.size ≤ w1.heap.size := by have h := hb1.size; first | omega | (simp at h; omega)
  clear hb1
  go_wp2_with fail
  refine (ThresholdFault_any xs need oa ca _ (hs.below (by go_grown) (Nat.le_refl _)) hm).mono ?_
  rw [hT.out]
  rintro e w2 ⟨rfl, hb2⟩
  have B2 : Below w.heap.size w w2 := bcall (by go_grown) hb2 (by go_size)
  have s2 := B2.size
  have q2 : w1.heap.size ≤ w2.heap.size := by have h := hb2.size; first | omega | (simp at h; omega)
  clear hb2
  go_wp2_with fail
  refine (lin_any _ _ _ _).mono ?_
  rw [hin.out]
  rintro e w' ⟨rfl, rfl⟩
  go_wp2_with fail
  go_ret
  exact ⟨ret_true (by simp), by go_grown⟩
theorem ThresholdSignersSuffice_main (need n : Int) (xs : List Int) (l : List UInt8) (oa ob : Option Addr) (ca cb : Nat) (w : World) (hs : Sl w oa xs.length ca 1 (intVals xs)) (hm : xs.length ≤ 9223372036854775807)
    (hb : Sl w ob l.length cb 1 (byteVals l)) (hm2 : l.length ≤ 9223372036854775807) :
    Calls Try.prog 11 #[.slice oa xs.length ca, .int .i64 need, .slice ob l.length cb, .int .i64 n] w fun e w' => e = .returned (.bool true) ∧ Below w.heap.size w w' := by
  by_cases ht : (Pl.thrF xs need).1 = 0
  · by_cases hl : l.length ≤ 4096
    · by_cases hin : Pl.inB n 0 (xs.length : Int) = true
      · have h := Pl.inB_true.1 hin
        exact ThresholdSignersSuffice_ok need n xs l oa ob ca cb w hs hm hb hm2 ht hl h.1 h.2
      · exact ThresholdSignersSuffice_n need n xs l oa ob ca cb w hs hm hb hm2 ht hl (by simpa using hin)
    · exact ThresholdSignersSuffice_l need n xs l oa ob ca cb w hs hm hb hm2 ht hl
  · exact ThresholdSignersSuffice_t need n xs l oa ob ca cb w hs hm hb hm2 ht
end Go.Proofs.Ytbbjniahaogdnaa
