/- Texts joined: Je Qp Jf Jg. -/
import Derived.Test.YtgngehfgcogceaaGreatDoorZMQo
import Derived.Test.YtgngehfgcogceaaGreatDoorZMQd
import Derived.Test.YtgngehfgcogceaaGreatDoorZMBs
import Derived.Test.YtgngehfgcogceaaGreatDoorZOc
section
/- Contracts: the digest of a version's text is a digest; the lock file of a good selection (lockfile.Make). -/
namespace Go.Proofs.YtgngehfgcogceaaGreatDoor
open Go.RowKit

theorem Pl.fmtV_le {v : Pl.Ver} (h : v.Ok) : (Pl.fmtV v).size ≤ 4096 := by
  have := Pl.verT_len h
  unfold Pl.fmtV
  split
  · exact Nat.zero_le _
  · rw [Pl.mkS_size]; omega
set_option maxHeartbeats 2000000 in
theorem seal_rng (v : Pl.Ver) (a : Option Addr) (c : Nat) (w : World) (h : VIn w v a c) (E : Env w) (hn : (Pl.fmtV v).size ≤ 4096) :
    Calls Tryz.prog 21 #[verV v a c] w fun e w' => ∃ D : Int, e = .returned (.int .i64 D) ∧ 0 ≤ D ∧ D < 2305843009213693951 ∧ Below w.heap.size w w' := by
  obtain ⟨f1, f2, hf⟩ : ∃ f1 f2, Pl.vrF v = (f1, f2) := ⟨_, _, rfl⟩
  have CF := Lib.hid (fun (W : World) (g1 : VIn W v a c) (g2 : Env W) => Format_any v a c W g1 g2)
  rw [hf] at CF
  simp only [fltV] at CF
  have H := Lib.hid h
  have HE := Lib.hid E
  clear h E hf
  generalize Pl.fmtV v = S at *
  go_enter Tryz.func21, Tryz.ntmps21
  have B0 : Below w.heap.size w w := Below.refl _ _
  go_wp2_with fail
  refine (CF.out _ ((H.out.below (Below.refl _ _ |>.alloc (Nat.le_refl _) _) (Nat.le_refl _))) (HE.out.below (by go_grown) (Nat.le_refl _))).mono ?_
  rintro e w1 ⟨rfl, hb⟩
  have B1 : Below w.heap.size w w1 := bcall (by go_grown) hb (by go_size)
  have q1 : w.heap.size + 1 ≤ w1.heap.size := by have z := hb.size; (try simp only [World.size_alloc] at z); omega
  replace H := Lib.hid ((H.out.below (Below.refl _ _ |>.alloc (Nat.le_refl _) _) (Nat.le_refl _)).below hb (Nat.le_refl _))
  have X := ((Bk.new (r := w.heap.size) (cs := [.int .i64 v.maj, .int .i64 v.min, .int .i64 v.pat, .slice a v.pre.length c]) _ 48 (by simp))).below hb (by go_size)
  clear hb
  have s1 : w.heap.size ≤ w1.heap.size := B1.size
  obtain ⟨X_c, X_f, X_l⟩ := id X
  obtain ⟨cv, w2, r2, bel2, sz2, sl2⟩ := run_s2b (P := Tryz.prog) (src := 9) Tryz.underlying9 Tryz.underlying97 Tryz.underlying5 (w1.alloc (.cells #[.int .i64 f1, .int .i64 f2] 30)) S (by unfold maxLen; omega)
  simp only [World.size_alloc] at sl2
  have B2 : Below w.heap.size w w2 := bcall (show Below w.heap.size w (w1.alloc (.cells #[.int .i64 f1, .int .i64 f2] 30)) from by go_grown) bel2 (by go_size)
  have s2 := B2.size
  clear X_c X_f X_l
  go_wp2_with fail
  refine (Of_ok S.data.toList _ cv w2 (by have h : S.data.toList.length = S.size := rfl; rw [h]; exact sl2) hn).mono ?_
  rintro e w3 ⟨rfl, hb⟩
  have B3 : Below w.heap.size w w3 := bcall B2 hb (by omega)
  have s3 := B3.size
  clear hb r2
  obtain ⟨D, hD⟩ : ∃ D, Pl.ofS S.data.toList = D := ⟨_, rfl⟩
  have HR := Lib.hid (Pl.ofS_range S.data.toList)
  rw [hD] at HR
  rw [hD]
  clear hD
  go_wp2_with fail
  go_ret
  exact ⟨D, rfl, HR.out.1, HR.out.2, by go_grown⟩
set_option maxRecDepth 100000 in
set_option maxHeartbeats 4000000 in
theorem Make_good (u : Pl.Uni) (ch : List Int) (a b : Option Addr) (c d : Nat) (w : World) (h1 : UIn w u a c) (h2 : Sl w b ch.length d 1 (intVals ch)) (E : Env w) (hu : Pl.UniOk u) (hc : Pl.ChOk u ch) :
    Calls Tryz.prog 7 #[.agg #[.slice a u.length c], .slice b ch.length d] w fun e w' => ∃ l o m, e = .returned (.tuple #[.slice o l.length m, .agg #[.int .i64 0, .int .i64 0]]) ∧ Pl.MkTo u ch u.length l ∧ LIn w' l o m ∧ Below w.heap.size w w' := by
  have CA := Lib.hid (fun (W : World) (g1 : UIn W u a c) => show Calls Tryz.prog 18 #[.agg #[.slice a u.length c]] W (fun e w' => e = .returned (.agg #[.int .i64 0, .int .i64 0]) ∧ Below W.heap.size W w') from by
    have h := sUni_any u a c W g1
    rw [Pl.uniF_ne (Pl.uniF_ok.2 hu)] at h
    exact h)
  have CB := Lib.hid (fun (W : World) (g1 : UIn W u a c) (g3 : Sl W b ch.length d 1 (intVals ch)) => show Calls Tryz.prog 19 #[.agg #[.slice a u.length c], .slice b ch.length d] W (fun e w' => e = .returned (.agg #[.int .i64 0, .int .i64 0]) ∧ Below W.heap.size W w') from by
    have h := sChos_any u ch a b c d W g1 g3
    rw [show Pl.chosF u ch = (0, 0) from by have := Pl.chosF_ok.2 hc; unfold Pl.chosF at this ⊢; split at this <;> first | exact absurd this (by decide) | (split at this <;> first | exact absurd this (by decide) | simp_all)] at h
    exact h)
  have h6 := hu.len
  have HL := Lib.hid hc.len
  have HU := Lib.hid hu
  have HC := Lib.hid hc
  have H := Lib.hid h1
  have L := Lib.hid h2
  have H0 := H
  have L0 := L
  have HE := Lib.hid E
  clear h1 h2 E hu hc
  go_enter Tryz.func7, Tryz.ntmps7
  have B0 : Below w.heap.size w w := Below.refl _ _
  go_wp2_with fail
  refine (CA.out _ (((H.out.below (Below.refl _ _ |>.alloc (Nat.le_refl _) _) (Nat.le_refl _)).below (Below.refl _ _ |>.alloc (Nat.le_refl _) _) (Nat.le_refl _)))).mono ?_
  rintro e w1 ⟨rfl, hb⟩
  have B1 : Below w.heap.size w w1 := bcall (by go_grown) hb (by go_size)
  have q1 : w.heap.size + 2 ≤ w1.heap.size := by have z := hb.size; (try simp only [World.size_alloc] at z); omega
  replace H := Lib.hid (((H.out.below (Below.refl _ _ |>.alloc (Nat.le_refl _) _) (Nat.le_refl _)).below (Below.refl _ _ |>.alloc (Nat.le_refl _) _) (Nat.le_refl _)).below hb (Nat.le_refl _))
  replace L := Lib.hid (((L.out.below (Below.refl _ _ |>.alloc (Nat.le_refl _) _) (Nat.le_refl _)).below (Below.refl _ _ |>.alloc (Nat.le_refl _) _) (Nat.le_refl _)).below hb (Nat.le_refl _))
  have X := (((Bk.new (r := w.heap.size) (cs := [.slice a u.length c]) _ 24 (by simp)).alloc _)).below hb (by go_size)
  have R := ((Bk.new (r := w.heap.size + 1) (cs := [.int .i64 0, .int .i64 0]) _ 30 (by simp))).below hb (by go_size)
  clear hb
  have s1 : w.heap.size ≤ w1.heap.size := B1.size
  obtain ⟨X_c, X_f, X_l⟩ := id X
  obtain ⟨R_c, R_f, R_l⟩ := id R
  go_wp2_with fail
  refine (CB.out _ ((H.out.below (Below.refl _ _ |>.alloc (Nat.le_refl _) _) (Nat.le_refl _))) ((L.out.below (Below.refl _ _ |>.alloc (Nat.le_refl _) _) (Nat.le_refl _)))).mono ?_
  rintro e w2 ⟨rfl, hb⟩
  have B2 : Below w.heap.size w w2 := bcall (by go_grown) hb (by go_size)
  have q2 : w1.heap.size + 1 ≤ w2.heap.size := by have z := hb.size; (try simp only [World.size_alloc] at z); omega
  replace H := Lib.hid ((H.out.below (Below.refl _ _ |>.alloc (Nat.le_refl _) _) (Nat.le_refl _)).below hb (Nat.le_refl _))
  replace L := Lib.hid ((L.out.below (Below.refl _ _ |>.alloc (Nat.le_refl _) _) (Nat.le_refl _)).below hb (Nat.le_refl _))
  replace X := ((X.alloc _)).below hb (by go_size)
  replace R := ((R.alloc _)).below hb (by go_size)
  clear hb
  have s2 : w.heap.size ≤ w2.heap.size := B2.size
  clear X_c X_f X_l R_c R_f R_l
  obtain ⟨X_c, X_f, X_l⟩ := id X
  obtain ⟨R_c, R_f, R_l⟩ := id R
  go_wp2_with fail
  clear X_c X_f X_l R_c R_f R_l
  clear H L
  go_loopw [8, 27] (fun v i wr => ∃ (k : Nat) (l : List Pl.Ent), k ≤ u.length ∧ i = .int .i64 k ∧ Pl.MkTo u ch k l ∧ (∃ o m, v = .slice o l.length m ∧ LOwn wr (w.heap.size + 2) l (.slice o l.length m) l.length) ∧ Bk wr w.heap.size [.slice a u.length c] ∧ Bk wr (w.heap.size + 1) [.int .i64 0, .int .i64 0] ∧ Below w.heap.size w wr) (fun _ i _ => u.length - (intOf i).toNat)
  case atStart => exact ⟨0, [], Nat.zero_le _, rfl, Pl.MkTo.zero _ _, ⟨none, 0, rfl, LOwn.nil _ _⟩, X.alloc _, R.alloc _, by go_grown⟩
  case round =>
    clear X R
    obtain ⟨k, l, hk, rfl, MT, ⟨o, m, rfl, OW⟩, X, R, B9⟩ := hrel
    have s9 := B9.size
    have s9b := R.lt
    have hl6 : l.length ≤ 6 := by have := MT.len; omega
    replace MT := Lib.hid MT
    obtain ⟨X_c, X_f, X_l⟩ := id X
    obtain ⟨R_c, R_f, R_l⟩ := id R
    by_cases hlt2 : k < u.length
    · have hlc : k < ch.length := by have := HL.out; omega
      obtain ⟨b2, off2, rfl, hb2, hat2⟩ := Sl.cellsAt (L0.out.below B9 (Nat.le_refl _)) (by omega)
      have f0 := hat2 k hlc
      clear hat2
      have tz : decide (k < u.length) = true := by simp; omega
      have ty : decide ((k : Int) < (u.length : Int)) = true := by simp; omega
      have tz' : decide (k < ch.length) = true := by simp; omega
      have ty' : decide ((k : Int) < (ch.length : Int)) = true := by simp; omega
      have HX := Lib.hid (HC.out.at' k hlc hlt2)
      obtain ⟨x, hx⟩ : ∃ x, ch[k] = x := ⟨_, rfl⟩
      have HK := Lib.hid hx
      rw [hx] at f0 HX
      clear hx
      by_cases x1 : x < 0
      · have t3 : decide (0 ≤ x) = false := by simp; omega
        have E := Lib.hid (MT.out.skip hlc (by rw [HK.out]; exact x1))
        clear HX HK MT
        go_wp2_with fail
        go_roundw
        case rel => exact ⟨k + 1, l, hlt2, by go_num, E.out, ⟨o, m, rfl, OW⟩, X, R, by go_grown⟩
        case measure => simp [intOf]; omega
      · have t3 : decide (0 ≤ x) = true := by simp; omega
        obtain ⟨n, rfl⟩ : ∃ n : Nat, x = (n : Int) := ⟨x.toNat, by omega⟩
        have hn : n < u[k].length := by have := HX.out.2; omega
        obtain ⟨bu, fu, rfl, hbu, hatu⟩ := (H0.out.below B9 (Nat.le_refl _)).at (by omega)
        obtain ⟨a5, c5, P5⟩ := hatu k hlt2
        have z0 := P5.e0
        obtain ⟨br, fr, rfl, hbr, hatr⟩ := P5.rs.at (by omega)
        obtain ⟨a3, c3, a4, c4, r0, r1, r2, r3, r4, VI, -⟩ := hatr n hn
        have OKR := (HU.out.rels u[k] (List.getElem_mem hlt2)).v u[k][n] (List.getElem_mem hn)
        have E := Lib.hid (fun (D : Int) (d0 : 0 ≤ D) (d1 : D < 2305843009213693951) => MT.out.add hlt2 hlc HK.out (List.getElem?_eq_getElem hn) OKR d0 d1)
        have HO := Lib.hid OKR
        have VH := Lib.hid VI
        have tn : decide (n < u[k].length) = true := by simp; omega
        have tm : decide ((n : Int) < (u[k].length : Int)) = true := by simp; omega
        have hrl : (u[k].length : Int) ≤ 9223372036854775807 := by have := P5.rs.len; omega
        clear HX HK MT hatu hatr P5 OKR VI r4 x1
        obtain ⟨V, hV⟩ : ∃ V, u[k][n].v = V := ⟨_, rfl⟩
        rw [hV] at r0 r1 r2 r3 E HO VH
        clear hV
        generalize u[k].length = rl at *
        go_wp2_with fail
        refine (verCopy_any V a3 c3 _ (VH.out.below (Below.refl _ _) (Nat.le_refl _)) HO.out.n).mono ?_
        rintro e w4 ⟨o4, c4', rfl, own4, hb⟩
        have B4 : Below w.heap.size w w4 := bcall B9 hb (by omega)
        have q4 : wr.heap.size ≤ w4.heap.size := hb.size
        have V4 : VIn w4 V o4 c4' := VIn.own rfl own4 HO.out.ss
        have hg0 : ∀ g, (Value.slice o l.length m).ownBlock = some g → g < wr.heap.size := fun g hg => by obtain ⟨cs, h1, _⟩ := OW.mem; exact (h1.lt g hg).2
        have Q4 := (SlQ.own (B0 := w.heap.size) (row := (Value.slice o l.length m).ownBlock) own4 (by omega) hg0).mono (R := fun b => some b ≠ (Value.slice o l.length m).ownBlock) (fun b h => h.2)
        have OW4 := OW.below hb (Nat.le_refl _)
        have X4 := X.below hb X.lt
        have R4 := R.below hb R.lt
        have V4h := Lib.hid V4
        have s4 := B4.size
        clear hb own4 V4 X_c X_f X_l R_c R_f R_l f0 z0 r0 r1 r2 r3 hb2 hbu hbr hg0 OW X R VH
        obtain ⟨X_c, X_f, X_l⟩ := id X4
        obtain ⟨R_c, R_f, R_l⟩ := id R4
        unfold verV
        go_wp2_with fail
        have VB := Bk.new (r := w4.heap.size) (cs := [.int .i64 V.maj, .int .i64 V.min, .int .i64 V.pat, .slice o4 V.pre.length c4']) w4 48 rfl
        have X5 := X4.alloc (.cells #[.int .i64 V.maj, .int .i64 V.min, .int .i64 V.pat, .slice o4 V.pre.length c4'] 48)
        have R5 := R4.alloc (.cells #[.int .i64 V.maj, .int .i64 V.min, .int .i64 V.pat, .slice o4 V.pre.length c4'] 48)
        have OW5 := OW4.alloc (.cells #[.int .i64 V.maj, .int .i64 V.min, .int .i64 V.pat, .slice o4 V.pre.length c4'] 48)
        have B5 : Below w.heap.size w (w4.alloc (.cells #[.int .i64 V.maj, .int .i64 V.min, .int .i64 V.pat, .slice o4 V.pre.length c4'] 48)) := by go_grown
        have V5 := Lib.hid (V4h.out.below (Below.refl _ _ |>.alloc (Nat.le_refl _) (.cells #[.int .i64 V.maj, .int .i64 V.min, .int .i64 V.pat, .slice o4 V.pre.length c4'] 48)) (Nat.le_refl _))
        clear X_c X_f X_l R_c R_f R_l X4 R4 OW4 V4h
        generalize w4.alloc (.cells #[.int .i64 V.maj, .int .i64 V.min, .int .i64 V.pat, .slice o4 V.pre.length c4'] 48) = v5 at *
        obtain ⟨VB_c, VB_f, VB_l⟩ := id VB
        refine wp_region_ord [0, 1, 2, 3, 4, 5, 6, 7, 8] (by kernel_rfl) (by kernel_rfl) ?_
        have VD := VB.drew
        replace X5 := X5.drew
        replace R5 := R5.drew
        replace OW5 := OW5.drew
        replace B5 := B5.drew
        replace V5 := Lib.hid (V5.out.below (Below.refl _ _).drew (Nat.le_refl _))
        clear VB VB_c VB_f VB_l
        generalize v5.drew = w5 at *
        obtain ⟨VB_c, VB_f, VB_l⟩ := id VD
        have s5 := B5.size
        have s5b := R5.lt
        repeat (refine wpI_rd rfl rfl ?_; go_big_quiet_step (fail); refine wpQuiet_nil ?_)
        try simp only [Act.put, List.setIfInBounds_toArray, List.set_cons_zero, List.set_cons_succ]
        refine wpI_call (f := 21) (args := #[verV V o4 c4']) rfl rfl rfl (by simp [go_sem, verV]) ?_
        refine (seal_rng V o4 c4' w5 V5.out (HE.out.below B5 (Nat.le_refl _)) (Pl.fmtV_le HO.out)).mono ?_
        rintro e w6 ⟨D, rfl, d0, d1, hb⟩
        replace E := Lib.hid (E.out D d0 d1)
        refine ⟨_, rfl, hb, ?_⟩
        have B6 : Below w.heap.size w w6 := bcall B5 hb (by omega)
        have X6 := X5.below hb X5.lt
        have R6 := R5.below hb R5.lt
        have OW6 := (OW5.below hb (Nat.le_refl _)).alloc (.cells #[.int .i64 k, .int .i64 V.maj, .int .i64 V.min, .int .i64 V.pat, .slice o4 V.pre.length c4', .int .i64 D] 50)
        have V6 := (V5.out.below hb (Nat.le_refl _)).below (B := w6.heap.size) ((Below.refl _ w6).alloc (Nat.le_refl _) (.cells (List.toArray [.int .i64 k, .int .i64 V.maj, .int .i64 V.min, .int .i64 V.pat, .slice o4 V.pre.length c4', .int .i64 D]) 50)) (Nat.le_refl _)
        have s6 := B6.size
        have q6 := hb.size
        clear hb VD VB_c VB_f VB_l d0 d1 OW5 X5 R5 V5
        obtain ⟨cs, own0, el0⟩ := OW6.mem
        try simp only [Act.put, List.setIfInBounds_toArray, List.set_cons_zero, List.set_cons_succ]
        repeat (refine wpI_rd rfl rfl ?_; go_big_quiet_step (fail); refine wpQuiet_nil ?_)
        try simp only [Act.put, List.setIfInBounds_toArray, List.set_cons_zero, List.set_cons_succ]
        refine wpI_add rfl rfl rfl (u := .slice (some ⟨w6.heap.size, 0, none⟩) 1 1) (w' := w6.alloc (.cells #[.int .i64 k, .int .i64 V.maj, .int .i64 V.min, .int .i64 V.pat, .slice o4 V.pre.length c4', .int .i64 D] 50)) (by simp [go_sem]) (Below.ext ((Below.refl _ _).alloc (Nat.le_refl _) _)) ?_
        try simp only [Act.put, List.setIfInBounds_toArray, List.set_cons_zero, List.set_cons_succ]
        refine wpI_apx rfl rfl rfl Tryz.tEnt rfl own0 (m := 1) (news := [.int .i64 k, .int .i64 V.maj, .int .i64 V.min, .int .i64 V.pat, .slice o4 V.pre.length c4', .int .i64 D]) (Src.ofSlice _ Tryz.tEnt.ht ⟨w6.heap.size, 0, none⟩ 1 1 _ rfl (fun j u hu => by rw [addr_add]; simp [hu]) (List.all_eq_true.1 rfl)) (by omega) (by simp; omega) ?_
        intro v7 w7 own7 hg7 hv7
        have NEW := LOwn.app (x := ⟨(k : Int), V, D⟩) rfl el0 ⟨o4, c4', rfl, V6, Q4⟩ own7 hg7 hv7
        have hb7 := grown_below hg7 own0 (by simp; omega)
        have B7 : Below w.heap.size w w7 := bcall (B6.alloc s6 _) hb7 (by omega)
        have X7 := (X6.alloc (.cells #[.int .i64 k, .int .i64 V.maj, .int .i64 V.min, .int .i64 V.pat, .slice o4 V.pre.length c4', .int .i64 D] 50)).below hb7 (by omega)
        have R7 := (R6.alloc (.cells #[.int .i64 k, .int .i64 V.maj, .int .i64 V.min, .int .i64 V.pat, .slice o4 V.pre.length c4', .int .i64 D] 50)).below hb7 (by omega)
        clear own7 hg7 hv7 hb7 own0 el0 OW6 V6 Q4 X6 R6
        obtain ⟨o7, c7, rfl⟩ := NEW.slice
        have hlen : (l ++ [(⟨(k : Int), V, D⟩ : Pl.Ent)]).length = l.length + 1 := by simp
        replace NEW := Lib.hid NEW
        replace hlen := Lib.hid hlen
        try simp only [Act.put, List.setIfInBounds_toArray, List.set_cons_zero, List.set_cons_succ]
        repeat (refine wpI_rd rfl rfl ?_; go_big_quiet_step (fail); refine wpQuiet_nil ?_)
        try simp only [Act.put, List.setIfInBounds_toArray, List.set_cons_zero, List.set_cons_succ]
        refine wpI_nil ?_
        try simp only [Act.put, List.setIfInBounds_toArray, List.set_cons_zero, List.set_cons_succ]
        go_wp2_with fail
        go_roundw
        case rel => exact ⟨k + 1, _, hlt2, by go_num, E.out, ⟨o7, c7, by rw [hlen.out], by rw [hlen.out]; exact NEW.out⟩, X7, R7, B7⟩
        case measure => simp [intOf]; omega
    · obtain rfl : k = u.length := by omega
      have tz : decide (u.length < ch.length) = false := by have := HL.out; simp; omega
      have ty : decide ((u.length : Int) < (ch.length : Int)) = false := by have := HL.out; simp; omega
      go_wp2_with fail
      have RN := (R.set (k := 0) (by simp) (.int .i64 0)).set (k := 1) (by simp) (.int .i64 0)
      obtain ⟨RN_c, RN_f, RN_l⟩ := RN
      have LN := (((OW.far (p := ⟨w.heap.size + 1, 0, none⟩) (by dsimp only; omega) (R.c 0) (fun _ h => by cases h) (.int .i64 0)).far (p := ⟨w.heap.size + 1, 1, none⟩) (by dsimp only; omega) ((R.set (k := 0) (by simp) (.int .i64 0)).c 1) (fun _ h => by cases h) (.int .i64 0))).lin
      refine bodyPost_ret (v := .tuple #[.slice o l.length m, .agg #[.int .i64 0, .int .i64 0]]) (by simp [results, Tryz.results7, go_sem, RN_c]) rfl ⟨l, o, m, rfl, MT.out, LN, by go_grown⟩
end Go.Proofs.YtgngehfgcogceaaGreatDoor

end
section
/- Lines of a lock file, in plain words. -/
namespace Go.Proofs.YtgngehfgcogceaaGreatDoor.Pl
/-- The line of an entry. -/
def entT (x : Ent) : List UInt8 := digS x.pk ++ 32 :: (verT x.ver ++ 32 :: digS x.dig)
def entS (x : Ent) : ByteArray := mkS (entT x)
theorem dig_len {n : Int} (h : n < 2305843009213693951) : (digS n).length ≤ 20 := dS_len 19 n.toNat (Nat.lt_of_lt_of_le (show n.toNat < 2305843009213693951 by omega) (by decide))
theorem ent_len {x : Ent} (h : EntOk x) : (entS x).size ≤ 200 := by
  have h1 := dig_len (n := x.pk) (by have := h.hi; omega)
  have h2 := dig_len h.d1
  have h3 := verT_len h.v
  unfold entS
  rw [mkS_size]
  unfold entT
  simp only [List.length_append, List.length_cons]
  omega
theorem digS_no32 (n : Int) : (32 : UInt8) ∉ digS n := digs_no (digS_digs n) (by decide)
theorem split_ent {x : Ent} (h : x.ver.Ok) : Lib.split (bsl (entS x)) [32] = [digS x.pk, verT x.ver, digS x.dig] := by
  unfold entS
  rw [bsl_mkS]
  unfold entT
  rw [split_at (digS_no32 _), split_at (verT_no h (c := 32) (by decide) (by decide)), split_no (digS_no32 _)]
theorem ver_read {v : Ver} (h : v.Ok) : parV (mkS (verT v)) = v ∧ parF (mkS (verT v)) = (0, 0) :=
  par_some (by rw [mkS_size]; exact verT_len h) (by rw [bsl_mkS]; exact prog_iff.2 ⟨h, rfl⟩)
theorem atoi_dig {n : Int} (h0 : 0 ≤ n) (h1 : n < 2305843009213693951) : Lib.atoiAll (digS n) = .ok n := by
  have hd := digS_digs n
  have hv : valL (digS n) = n := by unfold digS; rw [dS_val]; omega
  have hp := parse10 9223372036854775808 (Int.le_refl _) (digS n) 0 hd (by rw [hv]; simp; omega)
  have hne : digS n ≠ [] := dS_ne _
  rw [hv] at hp
  cases hl : digS n with
  | nil => exact absurd hl hne
  | cons c r =>
    rw [hl] at hp hd
    simp only [digsB, List.all_cons, Bool.and_eq_true] at hd
    have hc := digB_iff.1 hd.1
    have hm : Lib.parseMag (c :: r) = .ok n.toNat := by
      unfold Lib.parseMag
      rw [if_neg (by simp), hp]
      simp
    unfold Lib.atoiAll
    simp only
    rw [if_neg (by omega), hm]
    simp only
    rw [if_neg (by omega), if_neg (by omega), if_neg (by omega)]
    congr 1
    omega
theorem ent_text (x : Ent) : (((mkS (digS x.pk) ++ (⟨#[32]⟩ : ByteArray)) ++ mkS (verT x.ver)) ++ (⟨#[32]⟩ : ByteArray)) ++ mkS (digS x.dig) = entS x := by
  rw [show (⟨#[32]⟩ : ByteArray) = mkS [32] from rfl, mkS_app, mkS_app, mkS_app, mkS_app]
  unfold entS entT
  simp
end Go.Proofs.YtgngehfgcogceaaGreatDoor.Pl

end
section
/- Contract: a good list of entries is found good (lockfile.Validate). -/
namespace Go.Proofs.YtgngehfgcogceaaGreatDoor
open Go.RowKit

@[go_sem] theorem Tryz.fldL (x y : Int) (w : World) : (Instr.field 30 (.agg #[.int .i64 x, .int .i64 y]) 0).run Tryz.prog w = .ok (.int .i64 x) w := by kernel_rfl
theorem Pl.Ver.Ok.vr {v : Pl.Ver} (h : v.Ok) : Pl.vrF v = (0, 0) := by
  rcases Pl.vrF_cases v with ⟨f, -⟩ | f
  · exact f
  · exact absurd (Pl.vr_one h) f
set_option maxRecDepth 100000 in
set_option maxHeartbeats 4000000 in
theorem lockValidate_good (l : List Pl.Ent) (a : Option Addr) (c : Nat) (w : World) (h : LIn w l a c) (ok : Pl.EntsOk l) :
    Calls Tryz.prog 22 #[.slice a l.length c] w fun e w' => e = .returned (.agg #[.int .i64 0, .int .i64 0]) ∧ Below w.heap.size w w' := by
  have hn := ok.len
  have t1 : decide ((6 : Int) < (l.length : Int)) = false := by simp; omega
  have OK := Lib.hid ok
  have H := Lib.hid h
  clear h ok
  go_enter Tryz.func22, Tryz.ntmps22
  have B0 : Below w.heap.size w w := Below.refl _ _
  go_wp2_with fail
  go_loopw [12] (fun i wr => ∃ k : Nat, k ≤ l.length ∧ i = .int .i64 k ∧ Bk wr w.heap.size [.int .i64 0, .int .i64 0] ∧ Below w.heap.size w wr) (fun i _ => l.length - (intOf i).toNat)
  case atStart => exact ⟨0, Nat.zero_le _, rfl, Bk.new (cs := [.int .i64 0, .int .i64 0]) _ _ rfl, by go_grown⟩
  case round =>
    obtain ⟨k, hk, rfl, R, B1⟩ := hrel
    have s1 : w.heap.size ≤ wr.heap.size := B1.size
    by_cases hlt2 : k < l.length
    · obtain ⟨b, off, rfl, hlt, hat⟩ := (H.out.below B1 (Nat.le_refl _)).at (by omega)
      obtain ⟨a1, c1, I⟩ := hat k hlt2
      have OX := Lib.hid (OK.out.each _ (List.getElem_mem hlt2))
      have HAT := Lib.hid hat
      have HI := Lib.hid I
      clear hat I
      have tz : decide (k < l.length) = true := by simp; omega
      have ty : decide ((k : Int) < (l.length : Int)) = true := by simp; omega
      by_cases h0 : k = 0
      · have t5 : decide (0 < k) = false := by simp; omega
        have t6 : decide ((0 : Int) < (k : Int)) = false := by simp; omega
        clear h0 HAT
        obtain ⟨x, hx⟩ : ∃ x, l[k] = x := ⟨_, rfl⟩
        rw [hx] at HI OX
        clear hx
        have t2 : decide (x.pk < 0) = false := by have := OX.out.lo; simp; omega
        have t3 : decide (6 ≤ x.pk) = false := by have := OX.out.hi; simp; omega
        have td : Pl.isDigestB x.dig = true := by have := OX.out.d0; have := OX.out.d1; unfold Pl.isDigestB Pl.inB; simp; omega
        obtain ⟨e0, e1, e2, e3, e4, e5, V⟩ := id HI.out
        replace V := Lib.hid V
        obtain ⟨R_c, R_f, R_l⟩ := id R
        go_wp2_with fail
        refine (Validate_any x.ver a1 c1 _ ((V.out.below (Below.refl _ _ |>.alloc (Nat.le_refl _) _) (Nat.le_refl _)))).mono ?_
        rintro e w2 ⟨rfl, hb⟩
        rw [OX.out.v.vr]
        simp only [fltV]
        have hW : Below wr.heap.size wr w2 := bcall (by go_grown) hb (by simp)
        have B2 : Below w.heap.size w w2 := bcall (by go_grown) hb (by go_size)
        have q2 : wr.heap.size + 1 ≤ w2.heap.size := by have z := hb.size; (try simp only [World.size_alloc] at z); omega
        replace V := Lib.hid ((V.out.below (Below.refl _ _ |>.alloc (Nat.le_refl _) _) (Nat.le_refl _)).below hb (Nat.le_refl _))
        replace R := ((R.alloc _)).below hb (by go_size)
        have Y := ((Bk.new (r := wr.heap.size) (cs := [.int .i64 x.pk, .int .i64 x.ver.maj, .int .i64 x.ver.min, .int .i64 x.ver.pat, .slice a1 x.ver.pre.length c1, .int .i64 x.dig]) _ 50 (by simp))).below hb (by go_size)
        clear hb
        have s2 : w.heap.size ≤ w2.heap.size := B2.size
        clear R_c R_f R_l
        obtain ⟨R_c, R_f, R_l⟩ := id R
        obtain ⟨Y_c, Y_f, Y_l⟩ := id Y
        clear e0 e1 e2 e3 e4 e5
        have hbl : b < w2.heap.size := by omega
        clear hW HI
        go_wp2_with (go_at_call 41; refine (isDigest_any _ _).mono ?_; rintro e w' ⟨rfl, rfl⟩)
        go_quiet (fail)
        go_wp2_with fail
        go_roundw
        case rel => exact ⟨k + 1, hlt2, by go_num, R.drewN _, by first | exact Go.below_drewN (by go_grown) _ | go_grown⟩
        case measure => simp [intOf]; omega
      · have hpos : 0 < k := by omega
        have t5 : decide (0 < k) = true := by simp; omega
        have t6 : decide ((0 : Int) < (k : Int)) = true := by simp; omega
        have q3 := OK.out.inc (k - 1) (by omega)
        have q4 : (l[k - 1]'(by omega)).pk < l[k].pk := by simpa only [Nat.sub_add_cancel hpos] using q3
        have t7 : decide (l[k].pk ≤ (l[k - 1]'(by omega)).pk) = false := by simp; omega
        obtain ⟨a2, c2, P⟩ := HAT.out (k - 1) (by omega)
        obtain ⟨i1, i2, i3, i4, i5, i6, i7⟩ := idx_prev hpos hlt2 (by omega)
        have HP := Lib.hid P
        obtain ⟨p, hp⟩ : ∃ p, l[k - 1]'(by omega) = p := ⟨_, rfl⟩
        rw [hp] at HP t7
        clear hp P HAT q3 q4 h0
        obtain ⟨x, hx⟩ : ∃ x, l[k] = x := ⟨_, rfl⟩
        rw [hx] at HI OX t7
        clear hx
        have t2 : decide (x.pk < 0) = false := by have := OX.out.lo; simp; omega
        have t3 : decide (6 ≤ x.pk) = false := by have := OX.out.hi; simp; omega
        have td : Pl.isDigestB x.dig = true := by have := OX.out.d0; have := OX.out.d1; unfold Pl.isDigestB Pl.inB; simp; omega
        obtain ⟨e0, e1, e2, e3, e4, e5, V⟩ := id HI.out
        replace V := Lib.hid V
        obtain ⟨R_c, R_f, R_l⟩ := id R
        go_wp2_with fail
        refine (Validate_any x.ver a1 c1 _ ((V.out.below (Below.refl _ _ |>.alloc (Nat.le_refl _) _) (Nat.le_refl _)))).mono ?_
        rintro e w2 ⟨rfl, hb⟩
        rw [OX.out.v.vr]
        simp only [fltV]
        have hW : Below wr.heap.size wr w2 := bcall (by go_grown) hb (by simp)
        have B2 : Below w.heap.size w w2 := bcall (by go_grown) hb (by go_size)
        have q2 : wr.heap.size + 1 ≤ w2.heap.size := by have z := hb.size; (try simp only [World.size_alloc] at z); omega
        replace V := Lib.hid ((V.out.below (Below.refl _ _ |>.alloc (Nat.le_refl _) _) (Nat.le_refl _)).below hb (Nat.le_refl _))
        replace R := ((R.alloc _)).below hb (by go_size)
        have Y := ((Bk.new (r := wr.heap.size) (cs := [.int .i64 x.pk, .int .i64 x.ver.maj, .int .i64 x.ver.min, .int .i64 x.ver.pat, .slice a1 x.ver.pre.length c1, .int .i64 x.dig]) _ 50 (by simp))).below hb (by go_size)
        clear hb
        have s2 : w.heap.size ≤ w2.heap.size := B2.size
        clear R_c R_f R_l
        obtain ⟨R_c, R_f, R_l⟩ := id R
        obtain ⟨Y_c, Y_f, Y_l⟩ := id Y
        clear e0 e1 e2 e3 e4 e5
        have p0 := (HP.out.below hW hlt (Nat.le_refl _)).e0
        clear HP
        have hbl : b < w2.heap.size := by omega
        clear hW HI
        go_wp2_with (go_at_call 41; refine (isDigest_any _ _).mono ?_; rintro e w' ⟨rfl, rfl⟩)
        go_quiet (fail)
        go_wp2_with fail
        go_roundw
        case rel => exact ⟨k + 1, hlt2, by go_num, R.drewN _, by first | exact Go.below_drewN (by go_grown) _ | go_grown⟩
        case measure => simp [intOf]; omega
    · obtain rfl : k = l.length := by omega
      have tz : decide (l.length < l.length) = false := by simp
      have ty : decide ((l.length : Int) < (l.length : Int)) = false := by simp
      obtain ⟨R_c, R_f, R_l⟩ := id R
      go_wp2_with fail
      have RN := (R.set (k := 0) (by simp) (.int .i64 0)).set (k := 1) (by simp) (.int .i64 0)
      obtain ⟨RN_c, RN_f, RN_l⟩ := RN
      refine bodyPost_ret (v := .agg #[.int .i64 0, .int .i64 0]) (by simp [results, Tryz.results22, go_sem, RN_c]) rfl ⟨rfl, by go_grown⟩
end Go.Proofs.YtgngehfgcogceaaGreatDoor

end
section
/- Contract: the lines of a good list of entries (lockfile.Write). -/
namespace Go.Proofs.YtgngehfgcogceaaGreatDoor
open Go.RowKit

theorem Pl.fmt_good {v : Pl.Ver} (h : v.Ok) : Pl.fmtV v = Pl.mkS (Pl.verT v) := by unfold Pl.fmtV; rw [Pl.vrF_ok h, if_neg (by decide)]
/-- Strings in a row of one's own. -/
structure SOwn (w : World) (B : Nat) (ss : List ByteArray) (v : Value) (n : Nat) : Prop where
  own : w.ownsRow B 9 1 v n (strVals ss)
  len : ss.length = n
theorem SOwn.below {w w' : World} {B : Nat} {ss : List ByteArray} {v : Value} {n : Nat} (h : SOwn w B ss v n) {D : Nat} (hb : Below D w w') (hD : w.heap.size ≤ D) : SOwn w' B ss v n := ⟨ownsRow_below h.own hb hD, h.len⟩
theorem SOwn.sl {w : World} {B : Nat} {ss : List ByteArray} {o : Option Addr} {n m : Nat} (h : SOwn w B ss (.slice o n m) n) : Sl w o n m 1 (strVals ss) := Sl.own h.own
theorem SOwn.nil (w : World) (B : Nat) : SOwn w B [] (.slice none 0 0) 0 := ⟨World.ownsRow_nil _ _ _ _, rfl⟩
theorem SOwn.slice {w : World} {B : Nat} {ss : List ByteArray} {v : Value} {n : Nat} (h : SOwn w B ss v n) : ∃ oa c, v = .slice oa n c := own_slice h.own
theorem SOwn.far {w : World} {B : Nat} {ss : List ByteArray} {v : Value} {n : Nat} (h : SOwn w B ss v n) {p : Addr} (ha : p.block < B) (y : Value) : SOwn (w.setCell p y) B ss v n := ⟨ownsRow_far h.own ha y, h.len⟩
theorem write_step {l : List Pl.Ent} {k : Nat} (hk : k < l.length) : strVals ((l.take k).map Pl.entS) ++ [.string (Pl.entS l[k])] = strVals ((l.take (k + 1)).map Pl.entS) := by
  rw [← take_snoc (List.getElem?_eq_getElem hk)]
  unfold strVals
  rw [List.map_append, List.map_append]
  rfl
set_option maxRecDepth 100000 in
set_option maxHeartbeats 4000000 in
theorem lockWrite_good (l : List Pl.Ent) (a : Option Addr) (c : Nat) (w : World) (h : LIn w l a c) (E : Env w) (ok : Pl.EntsOk l) :
    Calls Tryz.prog 8 #[.slice a l.length c] w fun e w' => ∃ o m, e = .returned (.tuple #[.slice o l.length m, .agg #[.int .i64 0, .int .i64 0]]) ∧ Sl w' o l.length m 1 (strVals (l.map Pl.entS)) ∧ Below w.heap.size w w' := by
  have hn := ok.len
  have OK := Lib.hid ok
  have H := Lib.hid h
  have H0 := H
  have HE := Lib.hid E
  have CV := Lib.hid (fun (W : World) (g1 : LIn W l a c) => lockValidate_good l a c W g1 ok)
  clear h ok E
  go_enter Tryz.func8, Tryz.ntmps8
  have B0 : Below w.heap.size w w := Below.refl _ _
  go_wp2_with fail
  refine (CV.out _ ((H.out.below (Below.refl _ _ |>.alloc (Nat.le_refl _) _) (Nat.le_refl _)))).mono ?_
  rintro e w1 ⟨rfl, hb⟩
  have B1 : Below w.heap.size w w1 := bcall (by go_grown) hb (by go_size)
  have q1 : w.heap.size + 1 ≤ w1.heap.size := by have z := hb.size; (try simp only [World.size_alloc] at z); omega
  replace H := Lib.hid ((H.out.below (Below.refl _ _ |>.alloc (Nat.le_refl _) _) (Nat.le_refl _)).below hb (Nat.le_refl _))
  have R := ((Bk.new (r := w.heap.size) (cs := [.int .i64 0, .int .i64 0]) _ 30 (by simp))).below hb (by go_size)
  clear hb
  have s1 : w.heap.size ≤ w1.heap.size := B1.size
  obtain ⟨R_c, R_f, R_l⟩ := id R
  go_wp2_with fail
  clear R_c R_f R_l H
  go_loopw [5, 18] (fun v i wr => ∃ k : Nat, k ≤ l.length ∧ i = .int .i64 k ∧ SOwn wr (w.heap.size + 1) ((l.take k).map Pl.entS) v k ∧ Bk wr w.heap.size [.int .i64 0, .int .i64 0] ∧ Below w.heap.size w wr) (fun _ i _ => l.length - (intOf i).toNat)
  case atStart => exact ⟨0, Nat.zero_le _, rfl, SOwn.nil _ _, R.alloc _, by go_grown⟩
  case round =>
    clear R
    obtain ⟨k, hk, rfl, OW, R, B1⟩ := hrel
    obtain ⟨o, m, rfl⟩ := OW.slice
    have s1 : w.heap.size ≤ wr.heap.size := B1.size
    have s1b := R.lt
    by_cases hlt2 : k < l.length
    · obtain ⟨b, off, rfl, hlt, hat⟩ := (H0.out.below B1 (Nat.le_refl _)).at (by omega)
      obtain ⟨a1, c1, I⟩ := hat k hlt2
      have OX := Lib.hid (OK.out.each _ (List.getElem_mem hlt2))
      have ST := Lib.hid (write_step hlt2)
      obtain ⟨e0, e1, e2, e3, e4, e5, V⟩ := I
      replace V := Lib.hid V
      replace OW := Lib.hid OW
      clear hat
      have tz : decide (k < l.length) = true := by simp; omega
      have ty : decide ((k : Int) < (l.length : Int)) = true := by simp; omega
      generalize l[k] = x at *
      have CF := Lib.hid (fun (W : World) (h : VIn W x.ver a1 c1) (E : Env W) => Format_any x.ver a1 c1 W h E)
      rw [Pl.fmt_good OX.out.v, Pl.vrF_ok OX.out.v] at CF
      simp only [fltV] at CF
      have ET := Lib.hid (Pl.ent_text x)
      have z1 := Pl.dig_len (n := x.pk) (by have := OX.out.hi; omega)
      have z2 := Pl.verT_len OX.out.v
      have z3 := Pl.dig_len OX.out.d1
      rw [← Pl.mkS_size] at z1 z2 z3
      have p1 := OX.out.lo
      have p2 := OX.out.hi
      have p3 := OX.out.d0
      have p4 := OX.out.d1
      have I1 := Lib.hid (fun (W : World) (E : Env W) => Itoa_any x.pk W p1 (by omega) E)
      have I2 := Lib.hid (fun (W : World) (E : Env W) => Itoa_any x.dig W p3 (by omega) E)
      obtain ⟨S1, h1⟩ : ∃ S, Pl.mkS (Pl.digS x.pk) = S := ⟨_, rfl⟩
      obtain ⟨S2, h2⟩ : ∃ S, Pl.mkS (Pl.verT x.ver) = S := ⟨_, rfl⟩
      obtain ⟨S3, h3⟩ : ∃ S, Pl.mkS (Pl.digS x.dig) = S := ⟨_, rfl⟩
      have h1' : (⟨(Pl.digS x.pk).toArray⟩ : ByteArray) = S1 := h1
      have h3' : (⟨(Pl.digS x.dig).toArray⟩ : ByteArray) = S3 := h3
      rw [h1'] at I1
      rw [h3'] at I2
      rw [h2] at CF z2
      rw [h1] at z1
      rw [h3] at z3
      rw [h1, h2, h3] at ET
      have k1 : ∀ s : ByteArray, (s ++ (⟨#[32]⟩ : ByteArray)).size = s.size + 1 := fun s => ByteArray.size_append
      have k2 : ∀ s t : ByteArray, (s ++ t).size = s.size + t.size := fun s t => ByteArray.size_append
      have q1 : (S1.size : Int) ≤ 8388608 := by omega
      have q2 : (S2.size : Int) ≤ 8388608 := by omega
      have q3 : (S3.size : Int) ≤ 8388608 := by omega
      have q4 : ((S1 ++ (⟨#[32]⟩ : ByteArray)).size : Int) ≤ 8388608 := by rw [k1]; omega
      have q5 : (((S1 ++ (⟨#[32]⟩ : ByteArray)) ++ S2).size : Int) ≤ 8388608 := by rw [k2, k1]; omega
      have q6 : ((((S1 ++ (⟨#[32]⟩ : ByteArray)) ++ S2) ++ (⟨#[32]⟩ : ByteArray)).size : Int) ≤ 8388608 := by rw [k1, k2, k1]; omega
      have q7 : (((((S1 ++ (⟨#[32]⟩ : ByteArray)) ++ S2) ++ (⟨#[32]⟩ : ByteArray)) ++ S3).size : Int) ≤ 8388608 := by rw [k2, k1, k2, k1]; omega
      clear h1 h2 h3 h1' h3' k1 k2 p1 p2 p3 p4
      obtain ⟨R_c, R_f, R_l⟩ := id R
      go_wp2_with fail
      refine (CF.out _ ((V.out.below (Below.refl _ _ |>.alloc (Nat.le_refl _) _) (Nat.le_refl _))) (HE.out.below (by go_grown) (Nat.le_refl _))).mono ?_
      rintro e w2 ⟨rfl, hb⟩
      have B2 : Below w.heap.size w w2 := bcall (by go_grown) hb (by go_size)
      have q2 : wr.heap.size + 1 ≤ w2.heap.size := by have z := hb.size; (try simp only [World.size_alloc] at z); omega
      replace V := Lib.hid ((V.out.below (Below.refl _ _ |>.alloc (Nat.le_refl _) _) (Nat.le_refl _)).below hb (Nat.le_refl _))
      replace OW := Lib.hid ((OW.out.below (Below.refl _ _ |>.alloc (Nat.le_refl _) _) (Nat.le_refl _)).below hb (Nat.le_refl _))
      replace R := ((R.alloc _)).below hb (by go_size)
      have Y := ((Bk.new (r := wr.heap.size) (cs := [.int .i64 x.pk, .int .i64 x.ver.maj, .int .i64 x.ver.min, .int .i64 x.ver.pat, .slice a1 x.ver.pre.length c1, .int .i64 x.dig]) _ 50 (by simp))).below hb (by go_size)
      clear hb
      have s2 : w.heap.size ≤ w2.heap.size := B2.size
      clear R_c R_f R_l
      obtain ⟨R_c, R_f, R_l⟩ := id R
      obtain ⟨Y_c, Y_f, Y_l⟩ := id Y
      clear e0 e1 e2 e3 e4 e5 V CF
      go_wp2_with fail
      refine wp_region_ord [0, 1, 2, 5, 8, 9, 3, 4, 6, 7, 10, 11, 12, 13, 14] (by kernel_rfl) (by kernel_rfl) ?_
      have B3 : Below w.heap.size w (w2.alloc (.cells #[.int .i64 0, .int .i64 0] 30)).drew := by go_grown
      have q3 : w2.heap.size + 1 ≤ (w2.alloc (.cells #[.int .i64 0, .int .i64 0] 30)).drew.heap.size := by simp only [World.size_alloc, World.size_drew]; omega
      replace OW := Lib.hid ((OW.out.below (Below.refl _ _ |>.alloc (Nat.le_refl _) (.cells #[.int .i64 0, .int .i64 0] 30)) (Nat.le_refl _)).below (Below.refl _ _).drew (Nat.le_refl _))
      replace R := (R.alloc (.cells #[.int .i64 0, .int .i64 0] 30)).drew
      replace Y := (Y.alloc (.cells #[.int .i64 0, .int .i64 0] 30)).drew
      clear R_c R_f R_l Y_c Y_f Y_l
      generalize (w2.alloc (.cells #[.int .i64 0, .int .i64 0] 30)).drew = w3 at *
      have s3 : w.heap.size ≤ w3.heap.size := B3.size
      obtain ⟨R_c, R_f, R_l⟩ := id R
      obtain ⟨Y_c, Y_f, Y_l⟩ := id Y
      repeat (refine wpI_rd rfl rfl ?_; go_big_quiet_step (fail); refine wpQuiet_nil ?_)
      try simp only [Act.put, List.setIfInBounds_toArray, List.set_cons_zero, List.set_cons_succ]
      refine wpI_call (f := 23) (args := #[.int .i64 x.pk]) rfl rfl rfl (by simp [go_sem]) ?_
      refine (I1.out _ (HE.out.below B3 (Nat.le_refl _))).mono ?_
      rintro e w4 ⟨rfl, hb⟩
      refine ⟨_, rfl, hb, ?_⟩
      skip
      have B4 : Below w.heap.size w w4 := bcall (by go_grown) hb (by go_size)
      have q4 : w3.heap.size + 0 ≤ w4.heap.size := by have z := hb.size; (try simp only [World.size_alloc, World.size_setCell, World.size_drew] at z); omega
      replace OW := Lib.hid (OW.out.below hb (Nat.le_refl _))
      replace R := (R).below hb (by go_size)
      replace Y := (Y).below hb (by go_size)
      clear hb
      have s4 : w.heap.size ≤ w4.heap.size := B4.size
      clear R_c R_f R_l Y_c Y_f Y_l
      obtain ⟨R_c, R_f, R_l⟩ := id R
      obtain ⟨Y_c, Y_f, Y_l⟩ := id Y
      try simp only [Act.put, List.setIfInBounds_toArray, List.set_cons_zero, List.set_cons_succ]
      repeat (refine wpI_rd rfl rfl ?_; go_big_quiet_step (fail); refine wpQuiet_nil ?_)
      try simp only [Act.put, List.setIfInBounds_toArray, List.set_cons_zero, List.set_cons_succ]
      refine wpI_call (f := 23) (args := #[.int .i64 x.dig]) rfl rfl rfl (by simp [go_sem]) ?_
      refine (I2.out _ (HE.out.below B4 (Nat.le_refl _))).mono ?_
      rintro e w5 ⟨rfl, hb⟩
      refine ⟨_, rfl, hb, ?_⟩
      skip
      have B5 : Below w.heap.size w w5 := bcall (by go_grown) hb (by go_size)
      have q5 : w4.heap.size + 0 ≤ w5.heap.size := by have z := hb.size; (try simp only [World.size_alloc, World.size_setCell, World.size_drew] at z); omega
      replace OW := Lib.hid (OW.out.below hb (Nat.le_refl _))
      replace R := (R).below hb (by go_size)
      replace Y := (Y).below hb (by go_size)
      clear hb
      have s5 : w.heap.size ≤ w5.heap.size := B5.size
      clear R_c R_f R_l Y_c Y_f Y_l
      obtain ⟨R_c, R_f, R_l⟩ := id R
      obtain ⟨Y_c, Y_f, Y_l⟩ := id Y
      try simp only [Act.put, List.setIfInBounds_toArray, List.set_cons_zero, List.set_cons_succ]
      repeat (refine wpI_rd rfl rfl ?_; go_big_quiet_step (fail); refine wpQuiet_nil ?_)
      try simp only [Act.put, List.setIfInBounds_toArray, List.set_cons_zero, List.set_cons_succ]
      rw [ET.out]
      have OWA := OW.out.below ((Below.refl _ w5).alloc (Nat.le_refl _) (.cells #[.string (Pl.entS x)] 9)) (Nat.le_refl _)
      refine wpI_add rfl rfl rfl (u := .slice (some ⟨w5.heap.size, 0, none⟩) 1 1) (w' := w5.alloc (.cells #[.string (Pl.entS x)] 9)) (by simp [go_sem]) (Below.ext ((Below.refl _ _).alloc (Nat.le_refl _) _)) ?_
      try simp only [Act.put, List.setIfInBounds_toArray, List.set_cons_zero, List.set_cons_succ]
      refine wpI_apx rfl rfl rfl Tryz.tStrs rfl OWA.own (m := 1) (news := [.string (Pl.entS x)]) (Src.ofSlice _ Tryz.tStrs.ht ⟨w5.heap.size, 0, none⟩ 1 1 _ rfl (fun j u hu => by rw [addr_add]; simp [hu]) (List.all_eq_true.1 rfl)) (by omega) (by simp; omega) ?_
      intro v7 w7 own7 hg7 hv7
      have hb7 := grown_below hg7 OWA.own (by simp; omega)
      have B7 : Below w.heap.size w w7 := bcall (B5.alloc s5 _) hb7 (by omega)
      have R7 := (R.alloc (.cells #[.string (Pl.entS x)] 9)).below hb7 (by omega)
      rw [ST.out] at own7
      have NEW : SOwn w7 (w.heap.size + 1) ((l.take (k + 1)).map Pl.entS) v7 (k + 1) := ⟨own7, by rw [List.length_map, List.length_take]; omega⟩
      clear own7 hg7 hv7 hb7 OWA OW R
      obtain ⟨o7, c7, rfl⟩ := NEW.slice
      try simp only [Act.put, List.setIfInBounds_toArray, List.set_cons_zero, List.set_cons_succ]
      repeat (refine wpI_rd rfl rfl ?_; go_big_quiet_step (fail); refine wpQuiet_nil ?_)
      try simp only [Act.put, List.setIfInBounds_toArray, List.set_cons_zero, List.set_cons_succ]
      refine wpI_nil ?_
      try simp only [Act.put, List.setIfInBounds_toArray, List.set_cons_zero, List.set_cons_succ]
      go_wp2_with fail
      go_roundw
      case rel => exact ⟨k + 1, hlt2, by go_num, NEW, R7, B7⟩
      case measure => simp [intOf]; omega
    · obtain rfl : k = l.length := by omega
      have tz : decide (l.length < l.length) = false := by simp
      have ty : decide ((l.length : Int) < (l.length : Int)) = false := by simp
      obtain ⟨R_c, R_f, R_l⟩ := id R
      rw [List.take_length] at OW
      go_wp2_with fail
      have RN := (R.set (k := 0) (by simp) (.int .i64 0)).set (k := 1) (by simp) (.int .i64 0)
      obtain ⟨RN_c, RN_f, RN_l⟩ := RN
      refine bodyPost_ret (v := .tuple #[.slice o l.length m, .agg #[.int .i64 0, .int .i64 0]]) (by simp [results, Tryz.results8, go_sem, RN_c]) rfl ⟨o, m, rfl, ((OW.far (by dsimp only; omega) _).far (by dsimp only; omega) _).sl, by go_grown⟩
end Go.Proofs.YtgngehfgcogceaaGreatDoor

end
