/- Contract: the closed example of package threshold holds. -/
import Derived.Test.YtplcbhcbahiheaaXg
namespace Go.Proofs.Ytplcbhcbahiheaa
open Go.RowKit

set_option maxHeartbeats 1000000 in
theorem accepts_any (w : World) : Calls Try.prog 60 #[] w fun e w' => e = .returned (.bool true) ∧ Below w.heap.size w w' := by
  have A1 : Pl.accB [5, 7] 2 [97] (Pl.twoL [97]) = true := by decide
  have A2 : Pl.accF [5, 7] 2 1 (Pl.twoL [97]) = (0, 0) := by decide
  have A3 : Pl.accB [5, 7] 2 [97] [(5, Pl.signS 5 [97]), (5, Pl.signS 5 [97])] = false := by decide
  have A4 : Pl.accF [5, 7] 2 1 [(5, Pl.signS 5 [97]), (5, Pl.signS 5 [97])] = (0, 0) := by decide
  have A5 : Pl.signersV [5, 7] [97] [(7, Pl.signS 7 [97])] = [7] := by decide
  have A6 : Pl.sigF [5, 7] 1 [(7, Pl.signS 7 [97])] = (0, 0) := by decide
  replace A1 := Lib.hid A1
  replace A2 := Lib.hid A2
  replace A3 := Lib.hid A3
  replace A4 := Lib.hid A4
  replace A5 := Lib.hid A5
  replace A6 := Lib.hid A6
  have kc := fun (w : World) (C : Array Value) (n c k : Nat) (hk : k = w.heap.size) => run_convert_lit (P := Try.prog) (t := 45) (e := 5) w C n c hk Try.underlying45 Try.underlying5
  go_enter Try.func60, Try.ntmps60
  go_wp2_with fail
  refine (two_any [97] _ 1 _ (Sl.freshM (C := byteVals [97]) rfl rfl (by decide) (by decide)) (by decide)).mono ?_
  rintro e w1 ⟨o1, k1, rfl, t1, hb1⟩
  have B1 : Below w.heap.size w w1 := bcall (by go_grown) hb1 (by simp)
  have s1 := B1.size
  go_wp2_with fail
  have B2 := (B1.alloc s1 (.cells #[.int .i64 5, .int .i64 7] 3)).alloc (by simp; omega) (.cells #[.int .u8 97] 5 (1, 2))
  have s2 := B2.size
  have D2 : Below w1.heap.size w1 ((w1.alloc (.cells #[.int .i64 5, .int .i64 7] 3)).alloc (.cells #[.int .u8 97] 5 (1, 2))) := ((Below.refl _ w1).alloc (Nat.le_refl _) _).alloc (by simp) _
  have d2 := D2.size
  have L1 : Sl ((w1.alloc (.cells #[.int .i64 5, .int .i64 7] 3)).alloc (.cells #[.int .u8 97] 5 (1, 2))) (some ⟨w1.heap.size, 0, none⟩) 2 2 1 (intVals [5, 7]) := (Sl.fresh (C := intVals [5, 7]) rfl rfl (Nat.le_refl _) (by simp [maxLen])).below ((Below.refl _ _).alloc (Nat.le_refl _) _) (Nat.le_refl _)
  have L2 : Sl ((w1.alloc (.cells #[.int .i64 5, .int .i64 7] 3)).alloc (.cells #[.int .u8 97] 5 (1, 2))) (some ⟨w1.heap.size + 1, 0, none⟩) 1 1 1 (byteVals [97]) := Sl.freshM (C := byteVals [97]) (by simp) rfl (Nat.le_refl _) (by simp [maxLen])
  have L3 := t1.below D2 (Nat.le_refl _)
  have C1 := Accept_any [5, 7] 2 [97] (Pl.twoL [97]) _ _ o1 2 1 k1 _ L1 (by simp) L2 (by simp) L3 (by simp [Pl.twoL])
  refine C1.mono ?_
  clear C1
  rw [A1.out, show ([97] : List UInt8).length = 1 from rfl, A2.out]
  rintro e w2 ⟨rfl, hb2⟩
  have B3 := bcall B2 hb2 s2
  have s3 := B3.size
  have X1 := Box2.new w2 (.int .i64 0) (.int .i64 0) 24
  have t3 := t1.below (bcall D2 hb2 d2) (Nat.le_refl _)
  clear L1 L2 L3
  rcases t3.mem with h0 | ⟨b, off, rfl, hltb, hcb⟩
  · simp [Pl.twoL, pairVals] at h0
  have p0 : w2.cell? ⟨b, off, none⟩ = some (.int .i64 5) := hcb 0 _ rfl
  have p1 : w2.cell? ⟨b, off + 1, none⟩ = some (.int .i64 (Pl.signS 5 [97])) := hcb 1 _ rfl
  clear hcb t1
  clear A1 A2 X1 hb1 hb2 B2 s2 D2 d2
  generalize hS5 : Pl.signS 5 [97] = S5 at *
  have HS5 := Lib.hid hS5
  clear hS5
  go_wp2_with fail
  refine wp_region_free [0, 1, 2, 9, 10, 14] [3, 4, 5, 6, 7, 8, 11, 12, 13, 15] [16]
    (fun i => [Hold.sl 2 1 (intVals [5, 7]), Hold.lit (w2.heap.size + 1) 1 (byteVals [97]) 5, Hold.sl 1 1 (byteVals [97]), Hold.eq (.slice (some ⟨b, off, none⟩) 2 k1), Hold.eq (.pointer (some ⟨b, off, none⟩)), Hold.eq (.agg #[.int .i64 5, .int .i64 S5]),
      Hold.eq (.slice (some ⟨b, off, none⟩) 2 k1), Hold.eq (.pointer (some ⟨b, off, none⟩)), Hold.eq (.agg #[.int .i64 5, .int .i64 S5]), Hold.sl 2 2 (pairVals [(5, S5), (5, S5)]),
      Hold.eq (.tuple #[.bool false, .agg #[.int .i64 0, .int .i64 0]]), Hold.eq (.tuple #[.bool false, .agg #[.int .i64 0, .int .i64 0]]), Hold.eq (.bool false), Hold.eq (.agg #[.int .i64 0, .int .i64 0]), Hold.box (w2.heap.size + 1) (.int .i64 0) (.int .i64 0), Hold.eq (.bool false)].getD i Hold.any) (by kernel_rfl) (by kernel_rfl) ?_ ?_
  · skip
    refine ⟨stepOb_mk (by kernel_rfl) (by kernel_rfl) ?_, stepOb_mk (by kernel_rfl) (by kernel_rfl) ?_, stepOb_mk (by kernel_rfl) (by kernel_rfl) ?_, stepOb_mk (by kernel_rfl) (by kernel_rfl) ?_, stepOb_ca (by kernel_rfl) (by kernel_rfl) ?_, stepOb_mk (by kernel_rfl) (by kernel_rfl) ?_,
      stepOb_rd (by kernel_rfl) (by kernel_rfl) ?_, stepOb_rd (by kernel_rfl) (by kernel_rfl) ?_, stepOb_rd (by kernel_rfl) (by kernel_rfl) ?_, stepOb_rd (by kernel_rfl) (by kernel_rfl) ?_, stepOb_rd (by kernel_rfl) (by kernel_rfl) ?_, stepOb_rd (by kernel_rfl) (by kernel_rfl) ?_, stepOb_rd (by kernel_rfl) (by kernel_rfl) ?_, stepOb_rd (by kernel_rfl) (by kernel_rfl) ?_, stepOb_rd (by kernel_rfl) (by kernel_rfl) ?_, stepOb_rd (by kernel_rfl) (by kernel_rfl) ?_, trivial⟩
    all_goals (intro A x wx F hbx hd; replace hbx := Lib.hid hbx)
    · clear hd
      exact ⟨_, .slice (some ⟨wx.heap.size, 0, none⟩) 2 2, wx.alloc (.cells #[.int .i64 5, .int .i64 7] 3), rfl, by simp [go_sem], Below.ext ((Below.refl _ _).alloc (Nat.le_refl _) _), hbx.out.alloc hbx.out.size _, _, _, rfl, Sl.fresh (C := intVals [5, 7]) rfl rfl (Nat.le_refl _) (by simp [maxLen])⟩
    · clear hd
      exact ⟨_, .slice (some ⟨wx.heap.size, 0, none⟩) 1 1, wx.alloc (.cells #[.int .u8 97] 5), rfl, by simp [go_sem], Below.ext ((Below.refl _ _).alloc (Nat.le_refl _) _), hbx.out.alloc hbx.out.size _, wx.heap.size, rfl, by have := hbx.out.size; simp at this; omega, LitRow.new _ _ _⟩
    · obtain ⟨b1, h1, h1b, h1c⟩ := hd 1 rfl
      have e := F.get (d := 21) 1 rfl rfl (by simp) h1
      clear hd F
      obtain ⟨w', r1, r2, r3⟩ := run_mark (P := Try.prog) Try.underlying45 Try.underlying5 (n := 1) (c := 1) h1c
      exact ⟨_, _, w', rfl, by simp [go_sem, e.1, r1], r2, r3 _ _ (by simp; omega) hbx.out, _, _, rfl, (h1c.under r2).sl rfl (Nat.le_refl _) (by simp [maxLen])⟩
    · have h5 := hd 5 rfl
      have h8 := hd 8 rfl
      have e5 := F.get (d := 25) 5 rfl rfl (by simp) h5
      have e8 := F.get (d := 28) 8 rfl rfl (by simp) h8
      clear hd F h5 h8
      exact ⟨_, .slice (some ⟨wx.heap.size, 0, none⟩) 2 2, wx.alloc (.cells #[.int .i64 5, .int .i64 S5, .int .i64 5, .int .i64 S5] 79), rfl, by simp [go_sem, e5.2, e8.2], Below.ext ((Below.refl _ _).alloc (Nat.le_refl _) _), hbx.out.alloc hbx.out.size _, _, _, rfl, Sl.fresh (C := pairVals [(5, S5), (5, S5)]) rfl rfl (Nat.le_refl _) (by simp [maxLen])⟩
    · obtain ⟨o1, j1, h1, q1⟩ := hd 0 rfl
      obtain ⟨o2, j2, h2, q2⟩ := hd 2 rfl
      obtain ⟨o3, j3, h3, q3⟩ := hd 9 rfl
      have e1 := F.get (d := 20) 0 rfl rfl (by simp) h1
      have e2 := F.get (d := 22) 2 rfl rfl (by simp) h2
      have e3 := F.get (d := 29) 9 rfl rfl (by simp) h3
      clear hd F h1 h2 h3
      refine ⟨_, 64, #[.slice o1 2 j1, .int .i64 2, .slice o2 1 j2, .slice o3 2 j3], rfl, by simp [go_sem, e1.1, e2.1, e3.1], ?_⟩
      refine (Accept_any [5, 7] 2 [97] [(5, S5), (5, S5)] o1 o2 o3 j1 j2 j3 _ q1 (by simp) q2 (by simp) q3 (by simp)).mono ?_
      rw [A3.out]
      rintro e w' ⟨rfl, hb'⟩
      exact ⟨_, rfl, hb', by rw [show ([97] : List UInt8).length = 1 from rfl, A4.out]; rfl⟩
    · clear hd F
      exact ⟨_, .pointer (some ⟨wx.heap.size, 0, none⟩), wx.alloc (.cells #[.int .i64 0, .int .i64 0] 24), rfl, by simp [go_sem], Below.ext ((Below.refl _ _).alloc (Nat.le_refl _) _), hbx.out.alloc hbx.out.size _, _, rfl, by have := hbx.out.size; simp at this; omega, Box2.new _ _ _ _⟩
    · have e := F.was (d := 1) (v := .slice (some ⟨b, off, none⟩) 2 k1) rfl rfl
      clear hd F
      exact ⟨_, _, rfl, fun w' hx => by simp [go_sem, e.1], rfl⟩
    · have e := F.get (d := 23) 3 rfl rfl (by simp) (hd 3 rfl)
      clear hd F
      exact ⟨_, _, rfl, fun w' hx => by simp [go_sem, e.1], rfl⟩
    · have e := F.get (d := 24) 4 rfl rfl (by simp) (hd 4 rfl)
      clear hd F
      have g0 := hbx.out
      refine ⟨_, _, rfl, fun w' hx => ?_, rfl⟩
      have g1 : w'.cell? ⟨b, off, none⟩ = some (.int .i64 5) := hx.cell _ _ ((g0.cell (p := ⟨b, off, none⟩) (by simp; omega)).trans (by simp [go_sem, p0, hltb]))
      have g2 : w'.cell? ⟨b, off + 1, none⟩ = some (.int .i64 S5) := hx.cell _ _ ((g0.cell (p := ⟨b, off + 1, none⟩) (by simp; omega)).trans (by simp [go_sem, p1, hltb]))
      simp [go_sem, e.1, g1, g2]
    · have e := F.was (d := 1) (v := .slice (some ⟨b, off, none⟩) 2 k1) rfl rfl
      clear hd F
      exact ⟨_, _, rfl, fun w' hx => by simp [go_sem, e.1], rfl⟩
    · have e := F.get (d := 26) 6 rfl rfl (by simp) (hd 6 rfl)
      clear hd F
      exact ⟨_, _, rfl, fun w' hx => by simp [go_sem, e.1], rfl⟩
    · have e := F.get (d := 27) 7 rfl rfl (by simp) (hd 7 rfl)
      clear hd F
      have g0 := hbx.out
      refine ⟨_, _, rfl, fun w' hx => ?_, rfl⟩
      have g1 : w'.cell? ⟨b, off, none⟩ = some (.int .i64 5) := hx.cell _ _ ((g0.cell (p := ⟨b, off, none⟩) (by simp; omega)).trans (by simp [go_sem, p0, hltb]))
      have g2 : w'.cell? ⟨b, off + 1, none⟩ = some (.int .i64 S5) := hx.cell _ _ ((g0.cell (p := ⟨b, off + 1, none⟩) (by simp; omega)).trans (by simp [go_sem, p1, hltb]))
      simp [go_sem, e.1, g1, g2]
    · have e := F.get (d := 30) 10 rfl rfl (by simp) (hd 10 rfl)
      clear hd F
      exact ⟨_, _, rfl, fun w' hx => by simp [go_sem, e.1], rfl⟩
    · have e := F.get (d := 19) 11 rfl rfl (by simp) (hd 11 rfl)
      clear hd F
      exact ⟨_, _, rfl, fun w' hx => by simp [go_sem, e.1], rfl⟩
    · have e := F.get (d := 19) 11 rfl rfl (by simp) (hd 11 rfl)
      clear hd F
      exact ⟨_, _, rfl, fun w' hx => by simp [go_sem, e.1], rfl⟩
    · have e := F.get (d := 31) 12 rfl rfl (by simp) (hd 12 rfl)
      clear hd F
      exact ⟨_, _, rfl, fun w' hx => by simp [go_sem, e.1], rfl⟩
  · intro x wx hbx hI
    obtain ⟨-, -, -, -, -, ⟨r, h14, hr, X2⟩, -, -, -, -, -, -, -, -, h13, h15, -⟩ := hI
    have h13 : x 13 = .agg #[.int .i64 0, .int .i64 0] := h13
    have h15 : x 15 = .bool false := h15
    obtain ⟨c0, c1, f0, f1, l1⟩ := X2
    simp only [actOf, Act.put, List.setIfInBounds_toArray, List.set_cons_succ, List.set_cons_zero, Nat.zero_add, Nat.reduceAdd, h13, h14, h15]
    refine wpI_st rfl rfl rfl (w' := wx) (by simp [go_sem, c0, c1, f0, f1]; simp [setCell_id, c0, c1]) ?_
    refine wpI_nil ?_
    simp only [Act.put]
    have B4 : Below w.heap.size w wx := bcall ((B3.alloc s3 _).drew) hbx (by first | omega | (simp; omega))
    have s4 := B4.size
    have D4 : Below w2.heap.size w2 wx := bcall (((Below.refl _ w2).alloc (Nat.le_refl _) _).drew) hbx (by simp)
    have d4 := D4.size
    have hr2 : w2.heap.size < r := by omega
    obtain ⟨g0, g1, z0, z1, m1⟩ := (Box2.new w2 (.int .i64 0) (.int .i64 0) 24).drew.below hbx (by simp)
    have t4 := t3.below D4 (Nat.le_refl _)
    have hk1 := t3.hcap
    have hk2 := t3.hmax
    unfold maxLen at hk2
    clear hr hbx h13 h15 h14 t3
    go_wp2_with fail
    have q1 : (pairVals [((7 : Int), Pl.signS 7 [97])]).length = 1 * 2 := rfl
    have B5 := (B4.alloc s4 (.cells #[.int .i64 5, .int .i64 7] 3)).alloc (by simp; omega) (.cells #[.int .u8 97] 5 (1, 2))
    have D5 : Below wx.heap.size wx ((wx.alloc (.cells #[.int .i64 5, .int .i64 7] 3)).alloc (.cells #[.int .u8 97] 5 (1, 2))) := ((Below.refl _ wx).alloc (Nat.le_refl _) _).alloc (by simp) _
    have L1 : Sl ((wx.alloc (.cells #[.int .i64 5, .int .i64 7] 3)).alloc (.cells #[.int .u8 97] 5 (1, 2))) (some ⟨wx.heap.size, 0, none⟩) 2 2 1 (intVals [5, 7]) := (Sl.fresh (C := intVals [5, 7]) rfl rfl (Nat.le_refl _) (by simp [maxLen])).below ((Below.refl _ _).alloc (Nat.le_refl _) _) (Nat.le_refl _)
    have L2 : Sl ((wx.alloc (.cells #[.int .i64 5, .int .i64 7] 3)).alloc (.cells #[.int .u8 97] 5 (1, 2))) (some ⟨wx.heap.size + 1, 0, none⟩) 1 1 1 (byteVals [97]) := Sl.freshM (C := byteVals [97]) (by simp) rfl (Nat.le_refl _) (by simp [maxLen])
    have L3 : Sl ((wx.alloc (.cells #[.int .i64 5, .int .i64 7] 3)).alloc (.cells #[.int .u8 97] 5 (1, 2))) (some ⟨b, off + 2, none⟩) 1 (k1 - 1) 2 (pairVals [(7, Pl.signS 7 [97])]) := (by
      obtain ⟨-, -, -, m⟩ := t4.below D5 (Nat.le_refl _)
      refine ⟨rfl, by omega, by unfold maxLen; omega, .inr ⟨b, off + 2, rfl, ?_, fun j u hu => ?_⟩⟩
      · simp; omega
      · rcases m with h | ⟨b', off', h, _, hc⟩
        · simp [Pl.twoL, pairVals] at h
        · cases h
          have := hc (j + 2) u hu
          rwa [show off + (j + 2) = off + 2 + j by omega] at this)
    have q5 := B5.size
    have d5 := D5.size
    refine (Signers_any [5, 7] [97] [(7, Pl.signS 7 [97])] _ _ _ 2 1 (k1 - 1) _ L1 (by simp) L2 (by simp) L3 (by simp)).mono ?_
    rintro e w3 ⟨o3, k3, rfl, t5, hb5⟩
    rw [A5.out, show ([97] : List UInt8).length = 1 from rfl, A6.out] at *
    have B6 := bcall B5 hb5 q5
    have s6 := B6.size
    have D6 := bcall D5 hb5 d5
    have d6 := D6.size
    have l5 := Sl.own t5
    clear t5 hb5 D5 d5 B5 q5 L1 L2 L3 t4 q1
    obtain ⟨c0, c1, f0, f1, l1⟩ := (Box2.mk c0 c1 f0 f1 l1).below D6 l1
    obtain ⟨g0, g1, z0, z1, m1⟩ := (Box2.mk g0 g1 z0 z1 m1).below D6 m1
    have XN := Box2.new w3 (.int .i64 0) (.int .i64 0) 24
    go_wp2_with fail
    have B7 := B6.alloc s6 (.cells #[.int .i64 0, .int .i64 0] 24)
    have s7 := B7.size
    have D7 := D6.alloc d6 (.cells #[.int .i64 0, .int .i64 0] 24)
    refine (signs_any _).mono ?_
    rintro e w4 ⟨rfl, hb6⟩
    have B8 := bcall B7 hb6 s7
    have s8 := B8.size
    have d7 := hb6.size
    obtain ⟨c0, c1, f0, f1, l1⟩ := ((Box2.mk c0 c1 f0 f1 l1).alloc (.cells #[.int .i64 0, .int .i64 0] 24)).below hb6 (by simp; omega)
    obtain ⟨g0, g1, z0, z1, m1⟩ := ((Box2.mk g0 g1 z0 z1 m1).alloc (.cells #[.int .i64 0, .int .i64 0] 24)).below hb6 (by simp; omega)
    obtain ⟨n0, n1, y0, y1, u1⟩ := XN.below hb6 (by simp)
    have l6 := (l5.below ((Below.refl _ _).alloc (Nat.le_refl _) (.cells #[.int .i64 0, .int .i64 0] 24)) (Nat.le_refl _)).below hb6 (Nat.le_refl _)
    clear l5 D7 hb6 B7 s7 XN
    have e1 : (0 : Int) == 0 := rfl
    go_wp2_with fail
    have B9 := B8.alloc s8 (.cells #[.int .i64 7] 3)
    have s9 := B9.size
    refine (Ints_any [7] [7] o3 _ k3 1 _ (l6.below ((Below.refl _ _).alloc (Nat.le_refl _) _) (Nat.le_refl _)) (Sl.fresh (C := intVals [7]) rfl rfl (Nat.le_refl _) (by simp [maxLen])) (by simp) (by simp)).mono ?_
    rintro e w5 ⟨rfl, hb7⟩
    have B10 := bcall B9 hb7 s9
    have s10 := B10.size
    have B11 := B10.alloc s10 (.cells #[.int .i64 5, .int .i64 5] 3)
    have s11 := B11.size
    clear l6 hb7 B9 s9
    go_wp2_with fail
    refine (Validate_any [5, 5] 1 _ 2 _ (Sl.fresh (C := intVals [5, 5]) rfl rfl (Nat.le_refl _) (by simp [maxLen])) (by simp)).mono ?_
    rintro e w6 ⟨rfl, hb8⟩
    rw [show Pl.thrF [5, 5] 1 = (5, 1) by decide]
    have B12 := bcall B11 hb8 s11
    have s12 := B12.size
    clear hb8 B11 s11
    go_wp2_with fail
    refine (fault_any 5 1 _).mono ?_
    rintro e w7 ⟨rfl, hb9⟩
    have B13 := bcall B12 hb9 s12
    go_wp2_with fail
    go_ret
    exact ⟨rfl, B13⟩
end Go.Proofs.Ytplcbhcbahiheaa
