/- Contracts: the closed example of package roles holds. -/
import Derived.Test.YtplcbhcbahiheaaRe
import Derived.Test.YtplcbhcbahiheaaXh
namespace Go.Proofs.Ytplcbhcbahiheaa
open Go.RowKit

theorem RoleIs.under {w w' : World} {r : Pl.Role} {cs : List Value} (h : RoleIs w r cs) (hx : Ext w w') : RoleIs w' r cs := by
  obtain ⟨ka, kc, h1, h2, h3, h4⟩ := h
  exact ⟨ka, kc, h1, h2.under hx, h3, h4⟩
theorem RolesIn.under {w w' : World} {oa : Option Addr} {cap : Nat} {rs : List Pl.Role} (h : RolesIn w oa cap rs) (hx : Ext w w') : RolesIn w' oa cap rs := by
  refine ⟨h.hcap, h.hmax, ?_⟩
  rcases h.mem with h0 | ⟨b, off, rfl, hlt, hc⟩
  · exact .inl h0
  · refine .inr ⟨b, off, rfl, Nat.lt_of_lt_of_le hlt hx.size, fun i hi => ?_⟩
    obtain ⟨cs, h1, h2⟩ := hc i hi
    exact ⟨cs, h1.under hx, fun j u hu => hx.cell _ _ (h2 j u hu)⟩
def Hold.roles (rs : List Pl.Role) : Hold := ⟨fun u w => ∃ oa c, u = .slice oa rs.length c ∧ RolesIn w oa c rs, fun _ _ _ ⟨oa, c, h1, h2⟩ hb => ⟨oa, c, h1, h2.under hb⟩⟩

/-- The tree of the examples. -/
def Pl.treeL : List Pl.Role := [⟨-1, ⟨#[]⟩, [5], 1⟩, ⟨0, ⟨#[115, 114, 99, 47]⟩, [7], 1⟩, ⟨1, ⟨#[115, 114, 99, 47, 108, 105, 98, 47]⟩, [5, 7], 2⟩]
theorem tree_any (w : World) : Calls Try.prog 58 #[] w fun e w' => ∃ o c, e = .returned (.slice o Pl.treeL.length c) ∧ RolesIn w' o c Pl.treeL ∧ Below w.heap.size w w' := by
  go_enter Try.func58, Try.ntmps58
  go_wp2
  go_ret
  obtain ⟨W, hWe⟩ : ∃ W, W = ((w.alloc (.cells #[.int .i64 5] 3)).alloc (.cells #[.int .i64 7] 3)).alloc (.cells #[.int .i64 5, .int .i64 7] 3) := ⟨_, rfl⟩
  have hsz : w.heap.size + 1 + 1 + 1 = W.heap.size := by rw [hWe]; simp
  have hB : Below w.heap.size w W := by rw [hWe]; go_grown
  have s0 : Sl W (some ⟨w.heap.size, 0, none⟩) 1 1 1 (intVals [5]) := by
    rw [hWe]
    exact ((Sl.fresh (C := intVals [5]) (t := 3) rfl rfl (Nat.le_refl _) (by simp [maxLen])).below ((Below.refl _ _).alloc (Nat.le_refl _) _) (Nat.le_refl _)).below ((Below.refl _ _).alloc (Nat.le_refl _) _) (Nat.le_refl _)
  have s1 : Sl W (some ⟨w.heap.size + 1, 0, none⟩) 1 1 1 (intVals [7]) := by
    rw [hWe]
    exact (Sl.fresh (C := intVals [7]) (t := 3) (by simp) rfl (Nat.le_refl _) (by simp [maxLen])).below ((Below.refl _ _).alloc (Nat.le_refl _) _) (Nat.le_refl _)
  have s2 : Sl W (some ⟨w.heap.size + 1 + 1, 0, none⟩) 2 2 1 (intVals [5, 7]) := by
    rw [hWe]
    exact Sl.fresh (C := intVals [5, 7]) (t := 3) (by simp) rfl (Nat.le_refl _) (by simp [maxLen])
  rw [← hWe, hsz]
  clear hWe
  have hin : Below W.heap.size W (W.alloc (.cells #[.int .i64 (-1), .string ⟨#[]⟩, .slice (some ⟨w.heap.size, 0, none⟩) 1 1, .int .i64 1, .int .i64 0, .string ⟨#[115, 114, 99, 47]⟩, .slice (some ⟨w.heap.size + 1, 0, none⟩) 1 1, .int .i64 1, .int .i64 1, .string ⟨#[115, 114, 99, 47, 108, 105, 98, 47]⟩, .slice (some ⟨w.heap.size + 1 + 1, 0, none⟩) 2 2, .int .i64 2] 55)) := (Below.refl _ _).alloc (Nat.le_refl _) _
  have s0 := s0.below hin (Nat.le_refl _)
  have s1 := s1.below hin (Nat.le_refl _)
  have s2 := s2.below hin (Nat.le_refl _)
  refine ⟨_, _, rfl, ⟨by decide, by decide, .inr ⟨_, 0, rfl, by simp, fun i hi => ?_⟩⟩, hB.alloc hB.size _⟩
  match i, hi with
  | 0, _ =>
    refine ⟨roleCells Pl.treeL[0] (some ⟨w.heap.size, 0, none⟩) 1, ⟨_, _, rfl, s0, show 1 ≤ _ by omega, show 0 ≤ _ by omega⟩, fun j u hu => ?_⟩
    match j, hu with
    | 0, hu => cases hu; simp [Pl.treeL]
    | 1, hu => cases hu; simp [Pl.treeL]
    | 2, hu => cases hu; simp [Pl.treeL]
    | 3, hu => cases hu; simp [Pl.treeL]
    | j + 4, hu => simp [roleCells] at hu
  | 1, _ =>
    refine ⟨roleCells Pl.treeL[1] (some ⟨w.heap.size + 1, 0, none⟩) 1, ⟨_, _, rfl, s1, show 1 ≤ _ by omega, show 4 ≤ _ by omega⟩, fun j u hu => ?_⟩
    match j, hu with
    | 0, hu => cases hu; simp [Pl.treeL]
    | 1, hu => cases hu; simp [Pl.treeL]
    | 2, hu => cases hu; simp [Pl.treeL]
    | 3, hu => cases hu; simp [Pl.treeL]
    | j + 4, hu => simp [roleCells] at hu
  | 2, _ =>
    refine ⟨roleCells Pl.treeL[2] (some ⟨w.heap.size + 1 + 1, 0, none⟩) 2, ⟨_, _, rfl, s2, show 2 ≤ _ by omega, show 8 ≤ _ by omega⟩, fun j u hu => ?_⟩
    match j, hu with
    | 0, hu => cases hu; simp [Pl.treeL]
    | 1, hu => cases hu; simp [Pl.treeL]
    | 2, hu => cases hu; simp [Pl.treeL]
    | 3, hu => cases hu; simp [Pl.treeL]
    | j + 4, hu => simp [roleCells] at hu
set_option maxHeartbeats 4000000 in
theorem delegates_any (w : World) : Calls Try.prog 31 #[] w fun e w' => e = .returned (.bool true) ∧ Below w.heap.size w w' := by
  have A0 := Lib.hid (show Pl.chainV Pl.treeL ⟨#[115, 114, 99, 47, 108, 105, 98, 47, 120]⟩ = [0, 1, 2] by decide +kernel)
  have A1 := Lib.hid (show Pl.pathF Pl.treeL ⟨#[115, 114, 99, 47, 108, 105, 98, 47, 120]⟩ = (0, 0) by decide +kernel)
  have A2 := Lib.hid (show Pl.ofRole Pl.treeL ⟨#[115, 114, 99, 47, 120]⟩ = 1 by decide +kernel)
  have A3 := Lib.hid (show Pl.pathF Pl.treeL ⟨#[115, 114, 99, 47, 120]⟩ = (0, 0) by decide +kernel)
  have A4 := Lib.hid (show Pl.authB Pl.treeL ⟨#[115, 114, 99, 47, 120]⟩ [97] [(7, Pl.signS 7 [97])] = true by decide +kernel)
  have A5 := Lib.hid (show Pl.authF Pl.treeL ⟨#[115, 114, 99, 47, 120]⟩ 1 [(7, Pl.signS 7 [97])] = (0, 0) by decide +kernel)
  have A6 := Lib.hid (show Pl.authB Pl.treeL ⟨#[115, 114, 99, 47, 108, 105, 98, 47, 120]⟩ [97] [(7, Pl.signS 7 [97])] = false by decide +kernel)
  have A7 := Lib.hid (show Pl.authF Pl.treeL ⟨#[115, 114, 99, 47, 108, 105, 98, 47, 120]⟩ 1 [(7, Pl.signS 7 [97])] = (0, 0) by decide +kernel)
  have A8 := Lib.hid (show Pl.rolesF [] = (9, -1) by decide +kernel)
  have kc := fun (w : World) (C : Array Value) (n c k : Nat) (hk : k = w.heap.size) => run_convert_lit (P := Try.prog) (t := 45) (e := 5) w C n c hk Try.underlying45 Try.underlying5
  go_enter Try.func31, Try.ntmps31
  go_wp2_with fail
  refine (tree_any _).mono ?_
  rintro e w1 ⟨o1, k1, rfl, r1, hb1⟩
  have B1 : Below w.heap.size w w1 := bcall (by go_grown) hb1 (by go_size)
  have s1 := B1.size
  have q1 : w.heap.size ≤ w1.heap.size := by have h := hb1.size; first | omega | (simp at h; omega)
  clear hb1
  go_wp2_with fail
  refine (Chain_any Pl.treeL ⟨#[115, 114, 99, 47, 108, 105, 98, 47, 120]⟩ o1 k1 _ (r1.below (by go_grown) (Nat.le_refl _)) (by decide)).mono ?_
  rintro e w2 ⟨oc, kc2, rfl, own2, hb2⟩
  rw [A1.out]
  rw [A0.out] at *
  clear r1
  have sl2 := Sl.own own2
  clear own2
  have B2 : Below w.heap.size w w2 := bcall (by go_grown) hb2 (by go_size)
  have s2 := B2.size
  have q2 : w1.heap.size ≤ w2.heap.size := by have h := hb2.size; first | omega | (simp at h; omega)
  clear hb2
  go_wp2_with fail
  refine (tree_any _).mono ?_
  rintro e w3 ⟨o3, k3, rfl, r3, hb3⟩
  have B3 : Below w.heap.size w w3 := bcall (by go_grown) hb3 (by go_size)
  have s3 := B3.size
  have q3 : w2.heap.size + 1 ≤ w3.heap.size := by have h := hb3.size; first | omega | (simp at h; omega)
  obtain ⟨ba0, ba1, baf, bag, bal⟩ := (Box2.new w2 (.int .i64 0) (.int .i64 0) 24).below hb3 (by go_size)
  replace sl2 := (sl2.below (by go_grown) (Nat.le_refl _)).below hb3 (Nat.le_refl _)
  clear hb3
  go_wp2_with fail
  refine (Of_any Pl.treeL ⟨#[115, 114, 99, 47, 120]⟩ o3 k3 _ (r3.below (by go_grown) (Nat.le_refl _)) (by decide)).mono ?_
  rw [A2.out, A3.out]
  rintro e w4 ⟨rfl, hb4⟩
  have B4 : Below w.heap.size w w4 := bcall (by go_grown) hb4 (by go_size)
  have s4 := B4.size
  have q4 : w3.heap.size ≤ w4.heap.size := by have h := hb4.size; first | omega | (simp at h; omega)
  obtain ⟨ba0, ba1, baf, bag, bal⟩ := (Box2.mk ba0 ba1 baf bag bal).below hb4 (by go_size)
  replace sl2 := sl2.below hb4 (Nat.le_refl _)
  clear hb4
  go_wp2_with fail
  clear r3
  refine (two_any [97] _ 1 _ (Sl.freshM (C := byteVals [97]) (by simp) rfl (by decide) (by decide)) (by decide)).mono ?_
  rintro e w5 ⟨o5, k5, rfl, tw, hb5⟩
  have B5 : Below w.heap.size w w5 := bcall (by go_grown) hb5 (by go_size)
  have s5 := B5.size
  have q5 : w4.heap.size + 2 ≤ w5.heap.size := by have h := hb5.size; first | omega | (simp at h; omega)
  obtain ⟨ba0, ba1, baf, bag, bal⟩ := (((Box2.mk ba0 ba1 baf bag bal).alloc (.cells #[(.int .i64 0), (.int .i64 0)] 24)).alloc (.cells #[.int .u8 97] 5 (1, 2))).below hb5 (by go_size)
  obtain ⟨bb0, bb1, bbf, bbg, bbl⟩ := ((Box2.new w4 (.int .i64 0) (.int .i64 0) 24).alloc (.cells #[.int .u8 97] 5 (1, 2))).below hb5 (by go_size)
  replace sl2 := (sl2.below (by go_grown) (Nat.le_refl _)).below hb5 (Nat.le_refl _)
  clear hb5
  rcases tw.mem with h0 | ⟨b, off, rfl, hltb, hcb⟩
  · simp [Pl.twoL, pairVals] at h0
  have hs7 : Sl w5 (some ⟨b, off + 2, none⟩) 1 (k5 - 1) 2 (pairVals [(7, Pl.signS 7 [97])]) := (by
    have h1 := tw.hcap
    have h2 := tw.hmax
    refine ⟨rfl, by omega, by omega, .inr ⟨b, off + 2, rfl, hltb, fun j u hu => ?_⟩⟩
    have := hcb (j + 2) u hu
    rwa [show off + (j + 2) = off + 2 + j by omega] at this)
  have hk5 : 1 < k5 := by have := tw.hcap; omega
  have hk5n : ¬ k5 = 1 := by omega
  have hk5i : (1 : Int) < (k5 : Int) := by omega
  have hkmax := tw.hmax
  unfold maxLen at hkmax
  clear hcb tw
  obtain ⟨S7, hS7⟩ : ∃ x, Pl.signS 7 [97] = x := ⟨_, rfl⟩
  rw [hS7] at A4 A5 A6 A7 hs7
  clear hS7
  have hsl7 := Lib.hid (fun (W : World) (h : Below w5.drew.heap.size w5.drew W) => hs7.below (bcall ((Below.refl _ _).drew) h (by simp)) (Nat.le_refl _))
  go_wp2_with fail
  refine wp_region_free [0, 1, 2, 5, 9] [3, 4, 6, 7, 8, 10] [11]
    (fun i => [Hold.roles Pl.treeL,
      Hold.lit (w5.heap.size) 1 (byteVals [97]) 5,
      Hold.sl 1 1 (byteVals [97]),
      Hold.eq (.slice (some ⟨b, off, none⟩) 2 k5),
      Hold.eq (.slice (some ⟨b, off + 2, none⟩) 1 (k5 - 1)),
      Hold.eq (.tuple #[.bool true, .agg #[.int .i64 0, .int .i64 0]]),
      Hold.eq (.tuple #[.bool true, .agg #[.int .i64 0, .int .i64 0]]),
      Hold.eq (.bool true),
      Hold.eq (.agg #[.int .i64 0, .int .i64 0]),
      Hold.box (w5.heap.size) (.int .i64 0) (.int .i64 0),
      Hold.eq (.bool true)].getD i Hold.any) (by kernel_rfl) (by kernel_rfl) ?_ ?_
  · refine ⟨stepOb_ca (by kernel_rfl) (by kernel_rfl) ?_, stepOb_mk (by kernel_rfl) (by kernel_rfl) ?_, stepOb_mk (by kernel_rfl) (by kernel_rfl) ?_, stepOb_ca (by kernel_rfl) (by kernel_rfl) ?_, stepOb_mk (by kernel_rfl) (by kernel_rfl) ?_, stepOb_rd (by kernel_rfl) (by kernel_rfl) ?_, stepOb_rd (by kernel_rfl) (by kernel_rfl) ?_, stepOb_rd (by kernel_rfl) (by kernel_rfl) ?_, stepOb_rd (by kernel_rfl) (by kernel_rfl) ?_, stepOb_rd (by kernel_rfl) (by kernel_rfl) ?_, stepOb_rd (by kernel_rfl) (by kernel_rfl) ?_, trivial⟩
    all_goals (intro A x wx F hbx hd; replace hbx := Lib.hid hbx)
    · refine ⟨_, 58, #[], rfl, by simp [go_sem], ?_⟩
      skip
      refine (tree_any _).mono ?_
      rintro e w' ⟨o, c, rfl, hr, hb'⟩
      exact ⟨_, rfl, hb', o, c, rfl, hr⟩
    · exact ⟨_, .slice (some ⟨wx.heap.size, 0, none⟩) 1 1, wx.alloc (.cells #[.int .u8 97] 5), rfl, by simp [go_sem], Below.ext ((Below.refl _ _).alloc (Nat.le_refl _) _), hbx.out.alloc hbx.out.size _, wx.heap.size, rfl, by have := hbx.out.size; simp at this; omega, LitRow.new _ _ _⟩
    · obtain ⟨b1, h1, h1b, h1c⟩ := hd 1 rfl
      have e0 := F.get (d := 25) 1 rfl rfl (by simp) h1
      obtain ⟨w', r1, r2, r3⟩ := run_mark (P := Try.prog) Try.underlying45 Try.underlying5 (n := 1) (c := 1) h1c
      exact ⟨_, _, w', rfl, by simp [go_sem, e0.1, r1], r2, r3 _ _ (by simp; omega) hbx.out, _, _, rfl, (h1c.under r2).sl rfl (Nat.le_refl _) (by simp [maxLen])⟩
    · obtain ⟨o, c, h0, q1⟩ := hd 0 rfl
      have e0 := F.get (d := 24) 0 rfl rfl (by simp) h0
      obtain ⟨o2, j2, h2, q2⟩ := hd 2 rfl
      have e1 := F.get (d := 26) 2 rfl rfl (by simp) h2
      have e2 := F.get (d := 28) 4 rfl rfl (by simp) (hd 4 rfl)
      refine ⟨_, 37, #[.slice o (Pl.treeL).length c, .string ⟨#[115, 114, 99, 47, 120]⟩, .slice o2 1 j2, .slice (some ⟨b, off + 2, none⟩) 1 (k5 - 1)], rfl, by simp [go_sem, e0.1, e1.1, e2.1], ?_⟩
      skip
      refine (Authorized_any Pl.treeL ⟨#[115, 114, 99, 47, 120]⟩ [97] [(7, S7)] o o2 (some ⟨b, off + 2, none⟩) c j2 (k5 - 1) _ q1 (by decide) q2 (by decide) (hsl7.out _ hbx.out) (by simp)).mono ?_
      rw [A4.out]
      rintro e w' ⟨rfl, hb'⟩
      exact ⟨_, rfl, hb', by rw [show ([97] : List UInt8).length = 1 from rfl, A5.out]; rfl⟩
    · exact ⟨_, .pointer (some ⟨wx.heap.size, 0, none⟩), wx.alloc (.cells #[.int .i64 0, .int .i64 0] 24), rfl, by simp [go_sem], Below.ext ((Below.refl _ _).alloc (Nat.le_refl _) _), hbx.out.alloc hbx.out.size _, _, rfl, by have := hbx.out.size; first | exact this | (simp at this; omega), Box2.new _ _ _ _⟩
    · have e0 := F.was (d := 5) (v := .slice (some ⟨b, off, none⟩) 2 k5) rfl rfl
      exact ⟨_, _, rfl, fun w' hx => by simp [go_sem, e0.1], rfl⟩
    · have e0 := F.get (d := 27) 3 rfl rfl (by simp) (hd 3 rfl)
      exact ⟨_, _, rfl, fun w' hx => by simp [go_sem, e0.1, hk5n], rfl⟩
    · have e0 := F.get (d := 29) 5 rfl rfl (by simp) (hd 5 rfl)
      exact ⟨_, _, rfl, fun w' hx => by simp [go_sem, e0.1], rfl⟩
    · have e0 := F.get (d := 23) 6 rfl rfl (by simp) (hd 6 rfl)
      exact ⟨_, _, rfl, fun w' hx => by simp [go_sem, e0.1], rfl⟩
    · have e0 := F.get (d := 23) 6 rfl rfl (by simp) (hd 6 rfl)
      exact ⟨_, _, rfl, fun w' hx => by simp [go_sem, e0.1], rfl⟩
    · have e0 := F.get (d := 30) 7 rfl rfl (by simp) (hd 7 rfl)
      exact ⟨_, _, rfl, fun w' hx => by simp [go_sem, e0.1], rfl⟩
  · intro x wx hbx hI
    obtain ⟨-, -, -, -, ⟨rc, h9, hr, X2⟩, -, -, -, -, h8, h10, -⟩ := hI
    have h8 : x 8 = .agg #[.int .i64 0, .int .i64 0] := h8
    have h10 : x 10 = .bool true := h10
    obtain ⟨c0, c1, f0, f1, l1⟩ := X2
    simp only [actOf, Act.put, List.setIfInBounds_toArray, List.set_cons_succ, List.set_cons_zero, Nat.zero_add, Nat.reduceAdd, h8, h9, h10]
    refine wpI_st rfl rfl rfl (w' := wx) (by simp [go_sem, c0, c1, f0, f1]; simp [setCell_id, c0, c1]) ?_
    refine wpI_nil ?_
    simp only [Act.put]
    have B6 : Below w.heap.size w wx := bcall (B5.drew) hbx (by go_size)
    have s6 := B6.size
    have q6 : w5.heap.size ≤ wx.heap.size := by have h := hbx.size; first | omega | (simp at h; omega)
    have D6 : Below w5.heap.size w5 wx := bcall ((Below.refl _ _).drew) hbx (by simp)
    have bc0 := c0
    have bc1 := c1
    have bcf := f0
    have bcg := f1
    have bcl := l1
    have bcr : w5.heap.size ≤ rc := by first | exact hr | (simp at hr; exact hr)
    clear h8 h9 h10 hr hbx c0 c1 f0 f1 l1
    obtain ⟨ba0, ba1, baf, bag, bal⟩ := (Box2.mk ba0 ba1 baf bag bal).below D6 (by first | assumption | omega)
    obtain ⟨bb0, bb1, bbf, bbg, bbl⟩ := (Box2.mk bb0 bb1 bbf bbg bbl).below D6 (by first | assumption | omega)
    replace sl2 := sl2.below D6 (Nat.le_refl _)
    replace hs7 := hs7.below D6 (Nat.le_refl _)
    clear D6
    obtain ⟨w6, rfl⟩ : ∃ w6 : World, w6 = wx := ⟨_, rfl⟩
    have hsl7 := Lib.hid (fun (W : World) (h : Below w6.drew.heap.size w6.drew W) => hs7.below (bcall ((Below.refl _ _).drew) h (by simp)) (Nat.le_refl _))
    go_wp2_with fail
    refine wp_region_free [0, 1, 2, 5, 9] [3, 4, 6, 7, 8, 10] [11]
      (fun i => [Hold.roles Pl.treeL,
        Hold.lit (w6.heap.size) 1 (byteVals [97]) 5,
        Hold.sl 1 1 (byteVals [97]),
        Hold.eq (.slice (some ⟨b, off, none⟩) 2 k5),
        Hold.eq (.slice (some ⟨b, off + 2, none⟩) 1 (k5 - 1)),
        Hold.eq (.tuple #[.bool false, .agg #[.int .i64 0, .int .i64 0]]),
        Hold.eq (.tuple #[.bool false, .agg #[.int .i64 0, .int .i64 0]]),
        Hold.eq (.bool false),
        Hold.eq (.agg #[.int .i64 0, .int .i64 0]),
        Hold.box (w6.heap.size) (.int .i64 0) (.int .i64 0),
        Hold.eq (.bool false)].getD i Hold.any) (by kernel_rfl) (by kernel_rfl) ?_ ?_
    · refine ⟨stepOb_ca (by kernel_rfl) (by kernel_rfl) ?_, stepOb_mk (by kernel_rfl) (by kernel_rfl) ?_, stepOb_mk (by kernel_rfl) (by kernel_rfl) ?_, stepOb_ca (by kernel_rfl) (by kernel_rfl) ?_, stepOb_mk (by kernel_rfl) (by kernel_rfl) ?_, stepOb_rd (by kernel_rfl) (by kernel_rfl) ?_, stepOb_rd (by kernel_rfl) (by kernel_rfl) ?_, stepOb_rd (by kernel_rfl) (by kernel_rfl) ?_, stepOb_rd (by kernel_rfl) (by kernel_rfl) ?_, stepOb_rd (by kernel_rfl) (by kernel_rfl) ?_, stepOb_rd (by kernel_rfl) (by kernel_rfl) ?_, trivial⟩
      all_goals (intro A x wx F hbx hd; replace hbx := Lib.hid hbx)
      · refine ⟨_, 58, #[], rfl, by simp [go_sem], ?_⟩
        skip
        refine (tree_any _).mono ?_
        rintro e w' ⟨o, c, rfl, hr, hb'⟩
        exact ⟨_, rfl, hb', o, c, rfl, hr⟩
      · exact ⟨_, .slice (some ⟨wx.heap.size, 0, none⟩) 1 1, wx.alloc (.cells #[.int .u8 97] 5), rfl, by simp [go_sem], Below.ext ((Below.refl _ _).alloc (Nat.le_refl _) _), hbx.out.alloc hbx.out.size _, wx.heap.size, rfl, by have := hbx.out.size; simp at this; omega, LitRow.new _ _ _⟩
      · obtain ⟨b1, h1, h1b, h1c⟩ := hd 1 rfl
        have e0 := F.get (d := 34) 1 rfl rfl (by simp) h1
        obtain ⟨w', r1, r2, r3⟩ := run_mark (P := Try.prog) Try.underlying45 Try.underlying5 (n := 1) (c := 1) h1c
        exact ⟨_, _, w', rfl, by simp [go_sem, e0.1, r1], r2, r3 _ _ (by simp; omega) hbx.out, _, _, rfl, (h1c.under r2).sl rfl (Nat.le_refl _) (by simp [maxLen])⟩
      · obtain ⟨o, c, h0, q1⟩ := hd 0 rfl
        have e0 := F.get (d := 33) 0 rfl rfl (by simp) h0
        obtain ⟨o2, j2, h2, q2⟩ := hd 2 rfl
        have e1 := F.get (d := 35) 2 rfl rfl (by simp) h2
        have e2 := F.get (d := 37) 4 rfl rfl (by simp) (hd 4 rfl)
        refine ⟨_, 37, #[.slice o (Pl.treeL).length c, .string ⟨#[115, 114, 99, 47, 108, 105, 98, 47, 120]⟩, .slice o2 1 j2, .slice (some ⟨b, off + 2, none⟩) 1 (k5 - 1)], rfl, by simp [go_sem, e0.1, e1.1, e2.1], ?_⟩
        skip
        refine (Authorized_any Pl.treeL ⟨#[115, 114, 99, 47, 108, 105, 98, 47, 120]⟩ [97] [(7, S7)] o o2 (some ⟨b, off + 2, none⟩) c j2 (k5 - 1) _ q1 (by decide) q2 (by decide) (hsl7.out _ hbx.out) (by simp)).mono ?_
        rw [A6.out]
        rintro e w' ⟨rfl, hb'⟩
        exact ⟨_, rfl, hb', by rw [show ([97] : List UInt8).length = 1 from rfl, A7.out]; rfl⟩
      · exact ⟨_, .pointer (some ⟨wx.heap.size, 0, none⟩), wx.alloc (.cells #[.int .i64 0, .int .i64 0] 24), rfl, by simp [go_sem], Below.ext ((Below.refl _ _).alloc (Nat.le_refl _) _), hbx.out.alloc hbx.out.size _, _, rfl, by have := hbx.out.size; first | exact this | (simp at this; omega), Box2.new _ _ _ _⟩
      · have e0 := F.was (d := 5) (v := .slice (some ⟨b, off, none⟩) 2 k5) rfl rfl
        exact ⟨_, _, rfl, fun w' hx => by simp [go_sem, e0.1], rfl⟩
      · have e0 := F.get (d := 36) 3 rfl rfl (by simp) (hd 3 rfl)
        exact ⟨_, _, rfl, fun w' hx => by simp [go_sem, e0.1, hk5n], rfl⟩
      · have e0 := F.get (d := 38) 5 rfl rfl (by simp) (hd 5 rfl)
        exact ⟨_, _, rfl, fun w' hx => by simp [go_sem, e0.1], rfl⟩
      · have e0 := F.get (d := 32) 6 rfl rfl (by simp) (hd 6 rfl)
        exact ⟨_, _, rfl, fun w' hx => by simp [go_sem, e0.1], rfl⟩
      · have e0 := F.get (d := 32) 6 rfl rfl (by simp) (hd 6 rfl)
        exact ⟨_, _, rfl, fun w' hx => by simp [go_sem, e0.1], rfl⟩
      · have e0 := F.get (d := 39) 7 rfl rfl (by simp) (hd 7 rfl)
        exact ⟨_, _, rfl, fun w' hx => by simp [go_sem, e0.1], rfl⟩
    · intro x wx hbx hI
      obtain ⟨-, -, -, -, ⟨rd, h9, hr, X2⟩, -, -, -, -, h8, h10, -⟩ := hI
      have h8 : x 8 = .agg #[.int .i64 0, .int .i64 0] := h8
      have h10 : x 10 = .bool false := h10
      obtain ⟨c0, c1, f0, f1, l1⟩ := X2
      simp only [actOf, Act.put, List.setIfInBounds_toArray, List.set_cons_succ, List.set_cons_zero, Nat.zero_add, Nat.reduceAdd, h8, h9, h10]
      refine wpI_st rfl rfl rfl (w' := wx) (by simp [go_sem, c0, c1, f0, f1]; simp [setCell_id, c0, c1]) ?_
      refine wpI_nil ?_
      simp only [Act.put]
      have B7 : Below w.heap.size w wx := bcall (B6.drew) hbx (by go_size)
      have s7 := B7.size
      have q7 : w6.heap.size ≤ wx.heap.size := by have h := hbx.size; first | omega | (simp at h; omega)
      have D7 : Below w6.heap.size w6 wx := bcall ((Below.refl _ _).drew) hbx (by simp)
      have bd0 := c0
      have bd1 := c1
      have bdf := f0
      have bdg := f1
      have bdl := l1
      have bdr : w6.heap.size ≤ rd := by first | exact hr | (simp at hr; exact hr)
      clear h8 h9 h10 hr hbx c0 c1 f0 f1 l1
      obtain ⟨ba0, ba1, baf, bag, bal⟩ := (Box2.mk ba0 ba1 baf bag bal).below D7 (by first | assumption | omega)
      obtain ⟨bb0, bb1, bbf, bbg, bbl⟩ := (Box2.mk bb0 bb1 bbf bbg bbl).below D7 (by first | assumption | omega)
      obtain ⟨bc0, bc1, bcf, bcg, bcl⟩ := (Box2.mk bc0 bc1 bcf bcg bcl).below D7 (by first | assumption | omega)
      replace sl2 := sl2.below D7 (Nat.le_refl _)
      replace hs7 := hs7.below D7 (Nat.le_refl _)
      clear D7
      obtain ⟨w7, rfl⟩ : ∃ w7 : World, w7 = wx := ⟨_, rfl⟩
      clear hs7 hsl7 A4 A5 A6 A7
      go_wp2_with fail
      refine (accepts_any _).mono ?_
      rintro e w8 ⟨rfl, hb8⟩
      have B8 : Below w.heap.size w w8 := bcall (by go_grown) hb8 (by go_size)
      have s8 := B8.size
      have q8 : w7.heap.size ≤ w8.heap.size := by have h := hb8.size; first | omega | (simp at h; omega)
      obtain ⟨ba0, ba1, baf, bag, bal⟩ := (Box2.mk ba0 ba1 baf bag bal).below hb8 (by go_size)
      obtain ⟨bb0, bb1, bbf, bbg, bbl⟩ := (Box2.mk bb0 bb1 bbf bbg bbl).below hb8 (by go_size)
      obtain ⟨bc0, bc1, bcf, bcg, bcl⟩ := (Box2.mk bc0 bc1 bcf bcg bcl).below hb8 (by go_size)
      obtain ⟨bd0, bd1, bdf, bdg, bdl⟩ := (Box2.mk bd0 bd1 bdf bdg bdl).below hb8 (by go_size)
      replace sl2 := sl2.below hb8 (Nat.le_refl _)
      clear hb8
      go_wp2_with fail
      refine (Ints_any [0, 1, 2] [0, 1, 2] oc _ kc2 3 _ (sl2.below (by go_grown) (Nat.le_refl _)) (Sl.fresh (C := intVals [0, 1, 2]) (by simp) rfl (Nat.le_refl _) (by simp [maxLen])) (by simp) (by simp)).mono ?_
      rw [show decide (([0, 1, 2] : List Int) = [0, 1, 2]) = true from rfl]
      rintro e w9 ⟨rfl, hb9⟩
      have B9 : Below w.heap.size w w9 := bcall (by go_grown) hb9 (by go_size)
      have s9 := B9.size
      have q9 : w8.heap.size + 1 ≤ w9.heap.size := by have h := hb9.size; first | omega | (simp at h; omega)
      obtain ⟨ba0, ba1, baf, bag, bal⟩ := ((Box2.mk ba0 ba1 baf bag bal).alloc (.cells #[.int .i64 0, .int .i64 1, .int .i64 2] 3)).below hb9 (by go_size)
      obtain ⟨bb0, bb1, bbf, bbg, bbl⟩ := ((Box2.mk bb0 bb1 bbf bbg bbl).alloc (.cells #[.int .i64 0, .int .i64 1, .int .i64 2] 3)).below hb9 (by go_size)
      obtain ⟨bc0, bc1, bcf, bcg, bcl⟩ := ((Box2.mk bc0 bc1 bcf bcg bcl).alloc (.cells #[.int .i64 0, .int .i64 1, .int .i64 2] 3)).below hb9 (by go_size)
      obtain ⟨bd0, bd1, bdf, bdg, bdl⟩ := ((Box2.mk bd0 bd1 bdf bdg bdl).alloc (.cells #[.int .i64 0, .int .i64 1, .int .i64 2] 3)).below hb9 (by go_size)
      replace sl2 := (sl2.below (by go_grown) (Nat.le_refl _)).below hb9 (Nat.le_refl _)
      clear hb9
      go_wp2_with fail
      refine (rolesValidate_any [] none 0 _ (RolesIn.nil _)).mono ?_
      rw [A8.out]
      rintro e w10 ⟨rfl, hb10⟩
      have B10 : Below w.heap.size w w10 := bcall (by go_grown) hb10 (by go_size)
      have s10 := B10.size
      have q10 : w9.heap.size ≤ w10.heap.size := by have h := hb10.size; first | omega | (simp at h; omega)
      obtain ⟨ba0, ba1, baf, bag, bal⟩ := (Box2.mk ba0 ba1 baf bag bal).below hb10 (by go_size)
      obtain ⟨bb0, bb1, bbf, bbg, bbl⟩ := (Box2.mk bb0 bb1 bbf bbg bbl).below hb10 (by go_size)
      obtain ⟨bc0, bc1, bcf, bcg, bcl⟩ := (Box2.mk bc0 bc1 bcf bcg bcl).below hb10 (by go_size)
      obtain ⟨bd0, bd1, bdf, bdg, bdl⟩ := (Box2.mk bd0 bd1 bdf bdg bdl).below hb10 (by go_size)
      replace sl2 := sl2.below hb10 (Nat.le_refl _)
      clear hb10
      go_wp2_with fail
      refine (fault_any _ _ _).mono ?_
      rintro e w11 ⟨rfl, hb11⟩
      have B11 : Below w.heap.size w w11 := bcall (by go_grown) hb11 (by go_size)
      have s11 := B11.size
      have q11 : w10.heap.size ≤ w11.heap.size := by have h := hb11.size; first | omega | (simp at h; omega)
      obtain ⟨ba0, ba1, baf, bag, bal⟩ := (Box2.mk ba0 ba1 baf bag bal).below hb11 (by go_size)
      obtain ⟨bb0, bb1, bbf, bbg, bbl⟩ := (Box2.mk bb0 bb1 bbf bbg bbl).below hb11 (by go_size)
      obtain ⟨bc0, bc1, bcf, bcg, bcl⟩ := (Box2.mk bc0 bc1 bcf bcg bcl).below hb11 (by go_size)
      obtain ⟨bd0, bd1, bdf, bdg, bdl⟩ := (Box2.mk bd0 bd1 bdf bdg bdl).below hb11 (by go_size)
      replace sl2 := sl2.below hb11 (Nat.le_refl _)
      clear hb11
      go_wp2_with fail
      go_ret
      exact ⟨ret_true (by simp), by go_grown⟩
end Go.Proofs.Ytplcbhcbahiheaa
