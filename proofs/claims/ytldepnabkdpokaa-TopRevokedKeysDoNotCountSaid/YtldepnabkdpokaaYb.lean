/- The law TopRevokedKeysDoNotCount returns true. -/
import Derived.Test.YtldepnabkdpokaaYa
import Derived.Test.YtldepnabkdpokaaPm
namespace Go.Proofs.Ytldepnabkdpokaa
open Go.RowKit

set_option maxRecDepth 100000 in
theorem Try.tSigs : ElemT Try.prog 30 36 2 16 := ⟨Try.underlying30, ⟨_, _, rfl, rfl, rfl, rfl, rfl⟩, by decide, by decide⟩
theorem pair_one (s : Int × Int) : pairVals [s] = [.int .i64 s.1, .int .i64 s.2] := rfl
theorem pairVals_append (l m : List (Int × Int)) : pairVals (l ++ m) = pairVals l ++ pairVals m := List.flatMap_append
set_option maxRecDepth 100000 in
set_option maxHeartbeats 4000000 in
theorem TopRevokedKeysDoNotCount_bad (l : List Pl.Ev) (u t : Int) (d : List UInt8) (oa ob : Option Addr) (cap cb : Nat) (w : World) (hs : Sl w oa l.length cap 4 (quadVals l)) (hm : l.length ≤ 9223372036854775807) (hw : ∀ e ∈ l, (Lit.int .i64 e.key).wf = true) (_ : Sl w ob d.length cb 1 (byteVals d)) (_ : d.length ≤ 9223372036854775807) (hb : (Pl.ukF l u t).1 ≠ 0) : Calls Try.prog 3 #[.slice oa l.length cap, .int .i64 u, .int .i64 t, .slice ob d.length cb] w fun e w' => e = .returned (.bool true) ∧ Below w.heap.size w w' := by
  obtain ⟨G, hG⟩ : ∃ G, Pl.ukF l u t = G := ⟨_, rfl⟩
  have HV := Lib.hid (show Pl.ukV l u t = [] by unfold Pl.ukV; rw [if_neg hb])
  rw [hG] at hb
  have HF := Lib.hid hG
  have u1 : (G.1 == 0) = false := by simp [hb]
  have u2 : (G.1 != 0) = true := by simp [hb]
  clear hG hb
  go_enter Try.func3, Try.ntmps3
  go_wp2_with fail
  refine (kernSigns_any _).mono ?_
  rintro e w1 ⟨rfl, hb1⟩
  have B1 : Below w.heap.size w w1 := bcall (by go_grown) hb1 (by go_size)
  have s1 := B1.size
  have q1 : w.heap.size ≤ w1.heap.size := by have h := hb1.size; first | omega | (simp at h; omega)
  clear hb1
  go_wp2_with fail
  refine (kKeys_any l u t oa cap _ (hs.below (by go_grown) (Nat.le_refl _)) hm hw).mono ?_
  rw [HV.out, HF.out]
  rintro e w2 ⟨o2, c2, rfl, own2, hb2⟩
  clear own2
  simp only [List.length_nil]
  have B2 : Below w.heap.size w w2 := bcall (by go_grown) hb2 (by go_size)
  have s2 := B2.size
  have q2 : w1.heap.size ≤ w2.heap.size := by have h := hb2.size; first | omega | (simp at h; omega)
  clear hb2
  go_wp2_with fail
  go_ret
  exact ⟨ret_true (by simp), by go_grown⟩
set_option maxRecDepth 100000 in
set_option maxHeartbeats 4000000 in
theorem TopRevokedKeysDoNotCount_long (l : List Pl.Ev) (u t : Int) (d : List UInt8) (oa ob : Option Addr) (cap cb : Nat) (w : World) (hs : Sl w oa l.length cap 4 (quadVals l)) (hm : l.length ≤ 9223372036854775807) (hw : ∀ e ∈ l, (Lit.int .i64 e.key).wf = true) (_ : Sl w ob d.length cb 1 (byteVals d)) (_ : d.length ≤ 9223372036854775807) (hb : Pl.ukF l u t = (0, 0)) (h12 : 12 < (Pl.ukS l u t).length) : Calls Try.prog 3 #[.slice oa l.length cap, .int .i64 u, .int .i64 t, .slice ob d.length cb] w fun e w' => e = .returned (.bool true) ∧ Below w.heap.size w w' := by
  have HF := Lib.hid hb
  have HV := Lib.hid (show Pl.ukV l u t = Pl.ukS l u t by unfold Pl.ukV; rw [hb]; rfl)
  clear hb
  generalize Pl.ukS l u t = LS at *
  have d1 : decide (12 < LS.length) = true := by simp; omega
  have d2 : decide ((12 : Int) < (LS.length : Int)) = true := by simp; omega
  
  go_enter Try.func3, Try.ntmps3
  go_wp2_with fail
  refine (kernSigns_any _).mono ?_
  rintro e w1 ⟨rfl, hb1⟩
  have B1 : Below w.heap.size w w1 := bcall (by go_grown) hb1 (by go_size)
  have s1 := B1.size
  have q1 : w.heap.size ≤ w1.heap.size := by have h := hb1.size; first | omega | (simp at h; omega)
  clear hb1
  go_wp2_with fail
  refine (kKeys_any l u t oa cap _ (hs.below (by go_grown) (Nat.le_refl _)) hm hw).mono ?_
  rw [HV.out, HF.out]
  rintro e w2 ⟨o2, c2, rfl, own2, hb2⟩
  clear own2
  have B2 : Below w.heap.size w w2 := bcall (by go_grown) hb2 (by go_size)
  have s2 := B2.size
  have q2 : w1.heap.size ≤ w2.heap.size := by have h := hb2.size; first | omega | (simp at h; omega)
  clear hb2
  go_wp2_with fail
  go_ret
  exact ⟨ret_true (by simp), by go_grown⟩
set_option maxRecDepth 100000 in
set_option maxHeartbeats 4000000 in
theorem TopRevokedKeysDoNotCount_data (l : List Pl.Ev) (u t : Int) (d : List UInt8) (oa ob : Option Addr) (cap cb : Nat) (w : World) (hs : Sl w oa l.length cap 4 (quadVals l)) (hm : l.length ≤ 9223372036854775807) (hw : ∀ e ∈ l, (Lit.int .i64 e.key).wf = true) (_ : Sl w ob d.length cb 1 (byteVals d)) (hm2 : d.length ≤ 9223372036854775807) (hb : Pl.ukF l u t = (0, 0)) (h12 : (Pl.ukS l u t).length ≤ 12) (hd2 : 4096 < d.length) : Calls Try.prog 3 #[.slice oa l.length cap, .int .i64 u, .int .i64 t, .slice ob d.length cb] w fun e w' => e = .returned (.bool true) ∧ Below w.heap.size w w' := by
  have HF := Lib.hid hb
  have HV := Lib.hid (show Pl.ukV l u t = Pl.ukS l u t by unfold Pl.ukV; rw [hb]; rfl)
  clear hb
  generalize Pl.ukS l u t = LS at *
  have d1 : decide (12 < LS.length) = false := by simp; omega
  have d2 : decide ((12 : Int) < (LS.length : Int)) = false := by simp; omega
  have d3 : decide (4096 < d.length) = true := by simp; omega
  have d4 : decide ((4096 : Int) < (d.length : Int)) = true := by simp; omega
  
  go_enter Try.func3, Try.ntmps3
  go_wp2_with fail
  refine (kernSigns_any _).mono ?_
  rintro e w1 ⟨rfl, hb1⟩
  have B1 : Below w.heap.size w w1 := bcall (by go_grown) hb1 (by go_size)
  have s1 := B1.size
  have q1 : w.heap.size ≤ w1.heap.size := by have h := hb1.size; first | omega | (simp at h; omega)
  clear hb1
  go_wp2_with fail
  refine (kKeys_any l u t oa cap _ (hs.below (by go_grown) (Nat.le_refl _)) hm hw).mono ?_
  rw [HV.out, HF.out]
  rintro e w2 ⟨o2, c2, rfl, own2, hb2⟩
  clear own2
  have B2 : Below w.heap.size w w2 := bcall (by go_grown) hb2 (by go_size)
  have s2 := B2.size
  have q2 : w1.heap.size ≤ w2.heap.size := by have h := hb2.size; first | omega | (simp at h; omega)
  clear hb2
  go_wp2_with fail
  go_ret
  exact ⟨ret_true (by simp), by go_grown⟩
set_option maxRecDepth 100000 in
set_option maxHeartbeats 4000000 in
theorem TopRevokedKeysDoNotCount_ok (l : List Pl.Ev) (u t : Int) (d : List UInt8) (oa ob : Option Addr) (cap cb : Nat) (w : World) (hs : Sl w oa l.length cap 4 (quadVals l)) (hm : l.length ≤ 9223372036854775807) (hw : ∀ e ∈ l, (Lit.int .i64 e.key).wf = true) (hd : Sl w ob d.length cb 1 (byteVals d)) (hm2 : d.length ≤ 9223372036854775807) (hb : Pl.ukF l u t = (0, 0)) (h12 : (Pl.ukS l u t).length ≤ 12) (hd2 : d.length ≤ 4096) (hF : Pl.krF l = (0, 0)) (h40 : l.length ≤ 40) (hv : Pl.Valid l) (ht : Pl.isTimeB t = true) : Calls Try.prog 3 #[.slice oa l.length cap, .int .i64 u, .int .i64 t, .slice ob d.length cb] w fun e w' => e = .returned (.bool true) ∧ Below w.heap.size w w' := by
  have HF := Lib.hid hb
  have HV := Lib.hid (show Pl.ukV l u t = Pl.ukS l u t by unfold Pl.ukV; rw [hb]; rfl)
  clear hb
  have HVL := Lib.hid hv
  have HKS := Lib.hid (Pl.keysF_ok h12 (Pl.ukS_isKey hv) (Pl.ukS_rising l u t))
  have HSG := Lib.hid (fun x (hx : x ∈ Pl.ukS l u t) => Pl.signer_ok hF hv ht hx)
  have HALL := Lib.hid (Pl.signers_all (l := l) (u := u) (t := t) (d := d))
  obtain ⟨LS, hLS⟩ : ∃ x, Pl.ukS l u t = x := ⟨_, rfl⟩
  rw [hLS] at HV HKS HSG HALL h12
  clear hLS hv
  have d1 : decide (12 < LS.length) = false := by simp; omega
  have d2 : decide ((12 : Int) < (LS.length : Int)) = false := by simp; omega
  have d3 : decide (4096 < d.length) = false := by simp; omega
  have d4 : decide ((4096 : Int) < (d.length : Int)) = false := by simp; omega
  
  go_enter Try.func3, Try.ntmps3
  go_wp2_with fail
  refine (kernSigns_any _).mono ?_
  rintro e w1 ⟨rfl, hb1⟩
  have B1 : Below w.heap.size w w1 := bcall (by go_grown) hb1 (by go_size)
  have s1 := B1.size
  have q1 : w.heap.size ≤ w1.heap.size := by have h := hb1.size; first | omega | (simp at h; omega)
  clear hb1
  go_wp2_with fail
  refine (kKeys_any l u t oa cap _ (hs.below (by go_grown) (Nat.le_refl _)) hm hw).mono ?_
  rw [HV.out, HF.out]
  rintro e w2 ⟨o2, c2, rfl, own2, hb2⟩
  have sl2 := Sl.own own2
  clear own2
  have B2 : Below w.heap.size w w2 := bcall (by go_grown) hb2 (by go_size)
  have s2 := B2.size
  have q2 : w1.heap.size ≤ w2.heap.size := by have h := hb2.size; first | omega | (simp at h; omega)
  clear hb2
  go_wp2_with fail
  have BW : Below w.heap.size w (w2.alloc (.cells #[.int .i64 0, .int .i64 0] 27)) := B2.alloc s2 _
  have SL := sl2.below ((Below.refl _ _).alloc (Nat.le_refl _) (.cells #[.int .i64 0, .int .i64 0] 27)) (Nat.le_refl _)
  clear sl2 B1 B2 s1 s2 q1 q2
  generalize w2.alloc (.cells #[.int .i64 0, .int .i64 0] 27) = w3 at *
  have s3 := BW.size
  go_loopw [11, 12] (fun v i wr => ∃ (j : Nat) (o : Option Addr) (c : Nat), j ≤ l.length ∧ i = .int .i64 (j : Int) ∧ v = .slice o (Pl.sgOf (l.take j) d).length c ∧ (Pl.sgOf (l.take j) d).length ≤ 24 ∧ wr.ownsRow w3.heap.size 36 2 (.slice o (Pl.sgOf (l.take j) d).length c) (Pl.sgOf (l.take j) d).length (pairVals (Pl.sgOf (l.take j) d)) ∧ Below w3.heap.size w3 wr) (fun _ i _ => l.length - (intOf i).toNat)
  case atStart => exact ⟨0, none, 0, Nat.zero_le _, rfl, rfl, Nat.zero_le _, World.ownsRow_nil _ _ _ _, Below.refl _ _⟩
  case round =>
    obtain ⟨j, o, c, hj, rfl, rfl, h24, hown, hb3⟩ := hrel
    have hbw : Below w.heap.size w wr := bcall BW hb3 s3
    have sw := hbw.size
    have s3r := hb3.size
    have hsl := Pl.sgOf_length (l.take j) d
    have hlt' : (l.take j).length = j := by rw [List.length_take]; omega
    rw [hlt'] at hsl
    clear hlt'
    by_cases hlt : j < l.length
    · have t1 : decide (j < l.length) = true := by simp; omega
      have t2 : (j : Int) < (l.length : Int) := by omega
      have HT := Lib.hid (Pl.sgOf_snoc l d j hlt)
      by_cases hl24 : (Pl.sgOf (l.take j) d).length < 24
      · obtain ⟨b, off, rfl, hb, c0, c1, c2', c3⟩ := (hs.below hbw (Nat.le_refl _)).quad hlt
        have hky := HVL.out.isKey _ (List.getElem_mem hlt)
        obtain ⟨⟨kd, ky, us, tm⟩, he⟩ : ∃ e, l[j] = e := ⟨_, rfl⟩
        rw [he] at c0 c1 HT hky
        simp only at c0 c1 HT hky
        clear he c2' c3
        obtain ⟨SG, hSG⟩ : ∃ x, Pl.sgOf (l.take j) d = x := ⟨_, rfl⟩
        rw [hSG] at h24 hown hsl hl24 HT ⊢
        have e1 : decide (SG.length < 24) = true := by simp; omega
        have e2 : decide ((SG.length : Int) < 24) = true := by simp; omega
        replace hSG := Lib.hid hSG
        go_wp2_with fail
        refine (Sign_ok ky d ob cb _ (hd.below (by go_grown) (Nat.le_refl _)) hky hd2).mono ?_
        rintro e w5 ⟨rfl, hb5⟩
        have B5 : Below w.heap.size w w5 := bcall (by go_grown) hb5 (by go_size)
        have s5 := B5.size
        have b35 : Below w3.heap.size w3 w5 := bcall hb3 hb5 (by omega)
        have own5 := ownsRow_below hown hb5 (Nat.le_refl _)
        have c05 := (hb5.cell (p := ⟨b, off + j * 4, none⟩) hb).trans c0
        have c15 := (hb5.cell (p := ⟨b, off + j * 4 + 1, none⟩) hb).trans c1
        have q5 : w3.heap.size ≤ w5.heap.size := b35.size
        have hlb : b < w5.heap.size := Nat.lt_of_lt_of_le hb hb5.size
        clear hb5 hown c0 c1 hb3 hbw
        obtain ⟨SV, hSV⟩ : ∃ x, Pl.signS ky d = x := ⟨_, rfl⟩
        rw [hSV] at HT ⊢
        clear hSV
        by_cases hkd : kd = 1
        · subst hkd
          have HT2 := Lib.hid (show Pl.sgOf (l.take (j + 1)) d = SG ++ [(ky, SV)] by rw [HT.out, if_pos (by simp [Pl.addB])])
          have b36 : Below w3.heap.size w3 (w5.alloc (.cells #[.int .i64 0, .int .i64 0] 27)) := b35.alloc q5 _
          go_wp2_with (at_builtin; refine ap1g (by rfl) (by rfl) Try.tSigs b36 (by rfl) (own5.alloc _) (g := w5.heap.size + 1) (m := 1) (by simp) (by rfl) (by rfl) (by rfl) (by omega) (by simp; omega) ?_; intro v6 w6 own6 b6 h6; obtain ⟨o6, c6, rfl⟩ := own_slice own6)
          go_roundw
          case rel => exact ⟨j + 1, o6, c6, hlt, by go_num, by rw [HT2.out, List.length_append]; rfl, by rw [HT2.out, List.length_append]; simp; omega, by rw [HT2.out, List.length_append, pairVals_append, pair_one]; exact own6, b6⟩
          case measure => simp [intOf]; omega
        · have u1 : (kd == 1) = false := by simp [hkd]
          have HT2 := Lib.hid (show Pl.sgOf (l.take (j + 1)) d = SG by rw [HT.out, if_neg (by simp [Pl.addB, hkd]), List.append_nil])
          clear hkd
          go_wp2_with fail
          go_roundw
          case rel => exact ⟨j + 1, o, c, hlt, by go_num, by rw [HT2.out], by rw [HT2.out]; exact h24, by rw [HT2.out]; exact own5.alloc _, b35.alloc q5 _⟩
          case measure => simp [intOf]; omega
      · have e1 : decide ((Pl.sgOf (l.take j) d).length < 24) = false := by simp; omega
        have e2 : decide (((Pl.sgOf (l.take j) d).length : Int) < 24) = false := by simp; omega
        have HK := Lib.hid (Pl.sgOf_sig (l := l.take j) (fun e he => HVL.out.isKey e (List.mem_of_mem_take he)) d)
        have hbig : 24 < l.length := by omega
        have HFIN := Lib.hid (show l.length ≤ 24 → Pl.signers LS d (Pl.sgOf (l.take j) d) = LS from fun h => absurd h (by omega))
        clear HT hl24
        obtain ⟨wo, rfl⟩ : ∃ wo : World, wo = wr := ⟨_, rfl⟩
        generalize Pl.sgOf (l.take j) d = SG at *
        have HS1 := Lib.hid (Pl.sigF_ok HKS.out hd2 h24 HK.out)
        have HS2 := Lib.hid (show Pl.signersV LS d SG = Pl.signers LS d SG by unfold Pl.signersV; rw [HS1.out]; rfl)
        have hsub := Lib.hid (fun x (hx : x ∈ Pl.signers LS d SG) => HSG.out x (Pl.signers_sub x hx))
        have hsl2 : (Pl.signers LS d SG).length ≤ LS.length := List.length_filter_le _ _
        obtain ⟨SS, hSS⟩ : ∃ x, Pl.signers LS d SG = x := ⟨_, rfl⟩
        rw [hSS] at HS2 HFIN hsub hsl2
        clear hSS
        have slg := Sl.own hown
        clear hown
        go_wp2_with fail
        refine (Signers_any LS d SG o2 ob o c2 cb c _ (SL.below hb3 (Nat.le_refl _)) (by omega) (hd.below hbw (Nat.le_refl _)) hm2 slg (by omega)).mono ?_
        rintro e w5 ⟨o5, c5, rfl, own5, hb5⟩
        rw [HS2.out] at own5
        rw [HS2.out, HS1.out]
        have sl5 := Sl.own own5
        have B5 : Below w.heap.size w w5 := bcall hbw hb5 sw
        have s5 := B5.size
        have SL5 := (SL.below hb3 (Nat.le_refl _)).below hb5 (Nat.le_refl _)
        clear own5 slg hb5 hb3 hbw
        go_wp2_with fail
        have BW6 : Below w.heap.size w (w5.alloc (.cells #[.int .i64 0, .int .i64 0] 27)) := B5.alloc s5 _
        have SL6 := SL5.below ((Below.refl _ _).alloc (Nat.le_refl _) (.cells #[.int .i64 0, .int .i64 0] 27)) (Nat.le_refl _)
        have sl6 := sl5.below ((Below.refl _ _).alloc (Nat.le_refl _) (.cells #[.int .i64 0, .int .i64 0] 27)) (Nat.le_refl _)
        clear SL5 sl5 B5 s5
        generalize w5.alloc (.cells #[.int .i64 0, .int .i64 0] 27) = w6 at *
        have s6 := BW6.size
        go_loopw [17] (fun i wr => ∃ q : Nat, q ≤ SS.length ∧ i = .int .i64 (q : Int) ∧ Below w6.heap.size w6 wr) (fun i _ => SS.length - (intOf i).toNat)
        case atStart => exact ⟨0, Nat.zero_le _, rfl, Below.refl _ _⟩
        case round =>
          obtain ⟨q, hq, rfl, hb6⟩ := hrel
          have hbw2 : Below w.heap.size w wr := bcall BW6 hb6 s6
          have sw2 := hbw2.size
          have sl7 := sl6.below hb6 (Nat.le_refl _)
          by_cases hql : q < SS.length
          · have t3 : decide (q < SS.length) = true := by simp; omega
            have t4 : (q : Int) < (SS.length : Int) := by omega
            rcases sl7.mem with h0 | ⟨b7, off7, rfl, hlt7, hc7⟩
            · have h0 : SS = [] := by simpa [intVals] using h0
              rw [h0] at hql
              simp at hql
            have x0 := hc7 q _ (intVals_get SS q hql)
            obtain ⟨v1, v2, v3, v4⟩ := hsub.out _ (List.getElem_mem hql)
            generalize SS[q] = x at *
            have V1 := Lib.hid v1
            have V2 := Lib.hid v2
            have V3 := Lib.hid v3
            have V4 := Lib.hid v4
            clear v1 v2 v3 v4 hc7
            go_wp2_with fail
            refine (kValid_any l x t oa cap _ (hs.below (by go_grown) (Nat.le_refl _)) hm hw).mono ?_
            rw [V1.out, V2.out]
            rintro e w8 ⟨rfl, hb8⟩
            have B8 : Below w.heap.size w w8 := bcall (by go_grown) hb8 (by go_size)
            have s8 := B8.size
            have x8 := (hb8.cell (p := ⟨b7, off7 + q, none⟩) hlt7).trans x0
            have b68 : Below w6.heap.size w6 w8 := bcall hb6 hb8 hb6.size
            have l8 : b7 < w8.heap.size := Nat.lt_of_lt_of_le hlt7 hb8.size
            clear hb8 x0 hlt7
            go_wp2_with fail
            refine (kOwner_any l x oa cap _ (hs.below (by go_grown) (Nat.le_refl _)) hm hw).mono ?_
            rw [V3.out, V4.out]
            rintro e w9 ⟨rfl, hb9⟩
            have B9 : Below w.heap.size w w9 := bcall (by go_grown) hb9 (by go_size)
            have s9 := B9.size
            have q9 : w8.heap.size + 1 ≤ w9.heap.size := by have h := hb9.size; simp at h; omega
            have b69 : Below w6.heap.size w6 w9 := bcall (b68.alloc b68.size (.cells #[.int .i64 0, .int .i64 0] 27)) hb9 (by have := b68.size; simp; omega)
            obtain ⟨ba0, ba1, baf, bag, bal⟩ := (Box2.new w8 (.int .i64 0) (.int .i64 0) 27).below hb9 (by simp)
            clear hb9
            go_wp2_with fail
            go_roundw
            case rel => exact ⟨q + 1, hql, by go_num, b69.alloc b69.size _⟩
            case measure => simp [intOf]; omega
          · have t3 : decide (q < SS.length) = false := by simp; omega
            have t3' : decide ((q : Int) < (SS.length : Int)) = false := by simp; omega
            have SL7 := SL6.below hb6 (Nat.le_refl _)
            by_cases h24l : l.length ≤ 24
            · omega
            · have d5 : decide (24 < l.length) = true := by simp; omega
              have d6 : decide ((24 : Int) < (l.length : Int)) = true := by simp; omega
              go_wp2_with fail
              go_ret
              exact ⟨ret_true (by simp), by go_grown⟩
    · obtain rfl : j = l.length := by omega
      have t1 : decide (l.length < l.length) = false := by simp
      have HK := Lib.hid (Pl.sgOf_sig (l := l.take l.length) (fun e he => HVL.out.isKey e (List.mem_of_mem_take he)) d)
      have HFIN := Lib.hid (show l.length ≤ 24 → Pl.signers LS d (Pl.sgOf (l.take l.length) d) = LS from fun _ => by rw [List.take_length]; exact HALL.out)
      obtain ⟨wo, rfl⟩ : ∃ wo : World, wo = wr := ⟨_, rfl⟩
      generalize Pl.sgOf (l.take l.length) d = SG at *
      have HS1 := Lib.hid (Pl.sigF_ok HKS.out hd2 h24 HK.out)
      have HS2 := Lib.hid (show Pl.signersV LS d SG = Pl.signers LS d SG by unfold Pl.signersV; rw [HS1.out]; rfl)
      have hsub := Lib.hid (fun x (hx : x ∈ Pl.signers LS d SG) => HSG.out x (Pl.signers_sub x hx))
      have hsl2 : (Pl.signers LS d SG).length ≤ LS.length := List.length_filter_le _ _
      obtain ⟨SS, hSS⟩ : ∃ x, Pl.signers LS d SG = x := ⟨_, rfl⟩
      rw [hSS] at HS2 HFIN hsub hsl2
      clear hSS
      have slg := Sl.own hown
      clear hown
      go_wp2_with fail
      refine (Signers_any LS d SG o2 ob o c2 cb c _ (SL.below hb3 (Nat.le_refl _)) (by omega) (hd.below hbw (Nat.le_refl _)) hm2 slg (by omega)).mono ?_
      rintro e w5 ⟨o5, c5, rfl, own5, hb5⟩
      rw [HS2.out] at own5
      rw [HS2.out, HS1.out]
      have sl5 := Sl.own own5
      have B5 : Below w.heap.size w w5 := bcall hbw hb5 sw
      have s5 := B5.size
      have SL5 := (SL.below hb3 (Nat.le_refl _)).below hb5 (Nat.le_refl _)
      clear own5 slg hb5 hb3 hbw
      go_wp2_with fail
      have BW6 : Below w.heap.size w (w5.alloc (.cells #[.int .i64 0, .int .i64 0] 27)) := B5.alloc s5 _
      have SL6 := SL5.below ((Below.refl _ _).alloc (Nat.le_refl _) (.cells #[.int .i64 0, .int .i64 0] 27)) (Nat.le_refl _)
      have sl6 := sl5.below ((Below.refl _ _).alloc (Nat.le_refl _) (.cells #[.int .i64 0, .int .i64 0] 27)) (Nat.le_refl _)
      clear SL5 sl5 B5 s5
      generalize w5.alloc (.cells #[.int .i64 0, .int .i64 0] 27) = w6 at *
      have s6 := BW6.size
      go_loopw [17] (fun i wr => ∃ q : Nat, q ≤ SS.length ∧ i = .int .i64 (q : Int) ∧ Below w6.heap.size w6 wr) (fun i _ => SS.length - (intOf i).toNat)
      case atStart => exact ⟨0, Nat.zero_le _, rfl, Below.refl _ _⟩
      case round =>
        obtain ⟨q, hq, rfl, hb6⟩ := hrel
        have hbw2 : Below w.heap.size w wr := bcall BW6 hb6 s6
        have sw2 := hbw2.size
        have sl7 := sl6.below hb6 (Nat.le_refl _)
        by_cases hql : q < SS.length
        · have t3 : decide (q < SS.length) = true := by simp; omega
          have t4 : (q : Int) < (SS.length : Int) := by omega
          rcases sl7.mem with h0 | ⟨b7, off7, rfl, hlt7, hc7⟩
          · have h0 : SS = [] := by simpa [intVals] using h0
            rw [h0] at hql
            simp at hql
          have x0 := hc7 q _ (intVals_get SS q hql)
          obtain ⟨v1, v2, v3, v4⟩ := hsub.out _ (List.getElem_mem hql)
          generalize SS[q] = x at *
          have V1 := Lib.hid v1
          have V2 := Lib.hid v2
          have V3 := Lib.hid v3
          have V4 := Lib.hid v4
          clear v1 v2 v3 v4 hc7
          go_wp2_with fail
          refine (kValid_any l x t oa cap _ (hs.below (by go_grown) (Nat.le_refl _)) hm hw).mono ?_
          rw [V1.out, V2.out]
          rintro e w8 ⟨rfl, hb8⟩
          have B8 : Below w.heap.size w w8 := bcall (by go_grown) hb8 (by go_size)
          have s8 := B8.size
          have x8 := (hb8.cell (p := ⟨b7, off7 + q, none⟩) hlt7).trans x0
          have b68 : Below w6.heap.size w6 w8 := bcall hb6 hb8 hb6.size
          have l8 : b7 < w8.heap.size := Nat.lt_of_lt_of_le hlt7 hb8.size
          clear hb8 x0 hlt7
          go_wp2_with fail
          refine (kOwner_any l x oa cap _ (hs.below (by go_grown) (Nat.le_refl _)) hm hw).mono ?_
          rw [V3.out, V4.out]
          rintro e w9 ⟨rfl, hb9⟩
          have B9 : Below w.heap.size w w9 := bcall (by go_grown) hb9 (by go_size)
          have s9 := B9.size
          have q9 : w8.heap.size + 1 ≤ w9.heap.size := by have h := hb9.size; simp at h; omega
          have b69 : Below w6.heap.size w6 w9 := bcall (b68.alloc b68.size (.cells #[.int .i64 0, .int .i64 0] 27)) hb9 (by have := b68.size; simp; omega)
          obtain ⟨ba0, ba1, baf, bag, bal⟩ := (Box2.new w8 (.int .i64 0) (.int .i64 0) 27).below hb9 (by simp)
          clear hb9
          go_wp2_with fail
          go_roundw
          case rel => exact ⟨q + 1, hql, by go_num, b69.alloc b69.size _⟩
          case measure => simp [intOf]; omega
        · have t3 : decide (q < SS.length) = false := by simp; omega
          have t3' : decide ((q : Int) < (SS.length : Int)) = false := by simp; omega
          have SL7 := SL6.below hb6 (Nat.le_refl _)
          by_cases h24l : l.length ≤ 24
          · have hfe := Lib.hid (HFIN.out h24l)
            have d5 : decide (24 < l.length) = false := by simp; omega
            have d6 : decide ((24 : Int) < (l.length : Int)) = false := by simp; omega
            go_wp2_with fail
            refine (Ints_any SS LS o5 o2 c5 c2 _ sl7 SL7 (by omega) (by omega)).mono ?_
            rw [decide_eq_true hfe.out]
            rintro e w8 ⟨rfl, hb8⟩
            have B8 : Below w.heap.size w w8 := bcall hbw2 hb8 sw2
            clear hb8
            go_wp2_with fail
            go_ret
            exact ⟨ret_true (by simp), by go_grown⟩
          · have d5 : decide (24 < l.length) = true := by simp; omega
            have d6 : decide ((24 : Int) < (l.length : Int)) = true := by simp; omega
            go_wp2_with fail
            go_ret
            exact ⟨ret_true (by simp), by go_grown⟩
theorem Pl.ukF_ok2 {l : List Pl.Ev} {u t : Int} (h : (Pl.ukF l u t).1 = 0) : Pl.ukF l u t = (0, 0) ∧ Pl.krF l = (0, 0) ∧ l.length ≤ 40 ∧ Pl.Valid l ∧ Pl.isTimeB t = true := by
  unfold Pl.ukF at *
  rcases Pl.krF_cases l with ⟨h1, h2, h3⟩ | h1
  · rw [h1] at h ⊢
    rw [if_pos rfl] at h ⊢
    by_cases h4 : (Pl.isUserB u && Pl.isTimeB t) = true
    · rw [if_pos h4]
      simp only [Bool.and_eq_true] at h4
      exact ⟨rfl, rfl, h2, h3, h4.2⟩
    · rw [if_neg h4] at h; cases h
  · rw [if_neg h1] at h; exact absurd h h1
theorem TopRevokedKeysDoNotCount_main (l : List Pl.Ev) (u t : Int) (d : List UInt8) (oa ob : Option Addr) (cap cb : Nat) (w : World) (hs : Sl w oa l.length cap 4 (quadVals l)) (hm : l.length ≤ 9223372036854775807) (hw : ∀ e ∈ l, (Lit.int .i64 e.key).wf = true) (hd : Sl w ob d.length cb 1 (byteVals d)) (hm2 : d.length ≤ 9223372036854775807) : Calls Try.prog 3 #[.slice oa l.length cap, .int .i64 u, .int .i64 t, .slice ob d.length cb] w fun e w' => e = .returned (.bool true) ∧ Below w.heap.size w w' := by
  by_cases hb : (Pl.ukF l u t).1 = 0
  · obtain ⟨hb, hF, h40, hv, ht⟩ := Pl.ukF_ok2 hb
    by_cases h12 : (Pl.ukS l u t).length ≤ 12
    · by_cases hd2 : d.length ≤ 4096
      · exact TopRevokedKeysDoNotCount_ok l u t d oa ob cap cb w hs hm hw hd hm2 hb h12 hd2 hF h40 hv ht
      · exact TopRevokedKeysDoNotCount_data l u t d oa ob cap cb w hs hm hw hd hm2 hb h12 (by omega)
    · exact TopRevokedKeysDoNotCount_long l u t d oa ob cap cb w hs hm hw hd hm2 hb (by omega)
  · exact TopRevokedKeysDoNotCount_bad l u t d oa ob cap cb w hs hm hw hd hm2 hb
end Go.Proofs.Ytldepnabkdpokaa
