/- The law KeyringHistoryIsStable returns true. -/
import Derived.Test.YtkhkijpkgogncaaVl
namespace Go.Proofs.Ytkhkijpkgogncaa
open Go.RowKit

set_option maxRecDepth 100000 in
set_option maxHeartbeats 2000000 in
theorem KeyringHistoryIsStable_long (l : List Pl.Ev) (kd ky us tm : Int) (k t : Int) (oa : Option Addr) (cap : Nat) (w : World) (_ : Sl w oa l.length cap 4 (quadVals l)) (hm : l.length ≤ 9223372036854775807) (_ : ∀ e ∈ l, (Lit.int .i64 e.key).wf = true) (_ : (Lit.int .i64 ky).wf = true) (h : 40 < l.length) : Calls Try.prog 11 #[.slice oa l.length cap, .agg #[.int .i64 kd, .int .i64 ky, .int .i64 us, .int .i64 tm], .int .i64 k, .int .i64 t] w fun e w' => e = .returned (.bool true) ∧ Below w.heap.size w w' := by
  have d1 : decide (40 < l.length) = true := by simp; omega
  have d12 : decide ((40 : Int) < (l.length : Int)) = true := by simp; omega
  
  go_enter Try.func11, Try.ntmps11
  go_wp2_with fail
  refine (keys_any _).mono ?_
  rintro e w1 ⟨rfl, hb1⟩
  have B1 : Below w.heap.size w w1 := bcall (by go_grown) hb1 (by go_size)
  have s1 := B1.size
  have q1 : w.heap.size ≤ w1.heap.size := by have h := hb1.size; first | omega | (simp at h; omega)
  clear hb1
  go_wp2_with fail
  go_ret
  exact ⟨ret_true (by simp), by go_grown⟩
set_option maxRecDepth 100000 in
set_option maxHeartbeats 2000000 in
theorem KeyringHistoryIsStable_x (l : List Pl.Ev) (kd ky us tm : Int) (k t : Int) (oa : Option Addr) (cap : Nat) (w : World) (hs : Sl w oa l.length cap 4 (quadVals l)) (hm : l.length ≤ 9223372036854775807) (hw : ∀ e ∈ l, (Lit.int .i64 e.key).wf = true) (hky : (Lit.int .i64 ky).wf = true) (h1 : l.length ≤ 40) : Calls Try.prog 11 #[.slice oa l.length cap, .agg #[.int .i64 kd, .int .i64 ky, .int .i64 us, .int .i64 tm], .int .i64 k, .int .i64 t] w fun e w' => e = .returned (.bool true) ∧ Below w.heap.size w w' := by
  have d1 : decide (40 < l.length) = false := by simp; omega
  have d12 : decide ((40 : Int) < (l.length : Int)) = false := by simp; omega
  obtain ⟨F, hF⟩ : ∃ x, Pl.validF (l ++ [⟨kd, ky, us, tm⟩]) k t = x := ⟨_, rfl⟩
  obtain ⟨B, hB⟩ : ∃ x, Pl.validB (l ++ [⟨kd, ky, us, tm⟩]) k t = x := ⟨_, rfl⟩
  obtain ⟨G, hG⟩ : ∃ x, Pl.validF l k t = x := ⟨_, rfl⟩
  obtain ⟨C, hC⟩ : ∃ x, Pl.validB l k t = x := ⟨_, rfl⟩
  have n1 := Lib.hid (show F.1 ≠ 0 → B = false from fun h => by rw [← hB]; exact Pl.valid_bad2 (by rw [hF]; exact h))
  have n2 := Lib.hid (show F.1 = 0 → G.1 = 0 ∧ (t < tm → B = C) from fun h => by
    obtain ⟨g1, g2, g3, g4, g5, g6⟩ := Pl.validF_ok (show (Pl.validF (l ++ [⟨kd, ky, us, tm⟩]) k t).1 = 0 by rw [hF]; exact h)
    have g7 := (Pl.Valid.snoc.1 g4).1
    have g8 : Pl.krF l = (0, 0) := Pl.krF_ok h1 g7
    have g9 : Pl.validF l k t = (0, 0) := by unfold Pl.validF; rw [if_pos (by rw [g8]), if_pos (by rw [g5, g6]; rfl)]
    refine ⟨by rw [← hG, g9], fun ht => ?_⟩
    rw [← hB, ← hC]
    unfold Pl.validB
    rw [g1, g9, Pl.stable g4 ht])
  have HF := Lib.hid hF
  have HB := Lib.hid hB
  have HG := Lib.hid hG
  have HC := Lib.hid hC
  have hwa := Lib.hid (show ∀ e ∈ l ++ [⟨kd, ky, us, tm⟩], (Lit.int .i64 e.key).wf = true from fun e he => by
    rcases List.mem_append.1 he with he | he
    · exact hw e he
    · rw [List.mem_singleton.1 he]; exact hky)
  replace hw := Lib.hid hw
  clear hF hB hG hC hky
  go_enter Try.func11, Try.ntmps11
  go_wp2_with fail
  refine (keys_any _).mono ?_
  rintro e w1 ⟨rfl, hb1⟩
  have B1 : Below w.heap.size w w1 := bcall (by go_grown) hb1 (by go_size)
  have s1 := B1.size
  have q1 : w.heap.size + 1 ≤ w1.heap.size := by have h := hb1.size; first | omega | (simp at h; omega)
  have AB := (Blk.new w [.int .i64 kd, .int .i64 ky, .int .i64 us, .int .i64 tm] 63 (g := w.heap.size) (by go_size)).below hb1 (by go_size)
  have A0 := AB.c 0 _ rfl
  have A1 := AB.c 1 _ rfl
  have A2 := AB.c 2 _ rfl
  have A3 := AB.c 3 _ rfl
  have Af0 := AB.f 0 (Nat.le_of_ble_eq_true rfl)
  have Af1 := AB.f 1 (Nat.le_of_ble_eq_true rfl)
  have Af2 := AB.f 2 (Nat.le_of_ble_eq_true rfl)
  have Af3 := AB.f 3 (Nat.le_of_ble_eq_true rfl)
  have Al := AB.lt
  replace hs := (hs.below (by go_grown) (Nat.le_refl _)).below hb1 (Nat.le_refl _)
  clear hb1
  have src1 := Src.ofSl (P := Try.prog) (t := 50) Try.underlying50 hs (by decide) (quadVals_one l)
  have tok : True := trivial
  clear A0 A1 A2 A3 Af0 Af1 Af2 Af3 Al
  go_wp2_with (first | (at_builtin; have _t := tok; clear _t; clear tok; refine ap (by rfl) (by rfl) Try.tEvents (Below.refl w1.heap.size w1) (by rfl) (World.ownsRow_nil _ _ _ _) (m := l.length) src1 (by omega) (Nat.le_refl _) ?_; intro v2 w2 own2 G2 h2; have AB2 := AB.below G2 AB.lt; have A0 := AB2.c 0 _ rfl; have A1 := AB2.c 1 _ rfl; have A2 := AB2.c 2 _ rfl; have A3 := AB2.c 3 _ rfl) | (at_builtin; refine ap1 (by rfl) (by rfl) Try.tEvents G2 (by rfl) own2 (m := 1) (by rfl) (by rfl) (by rfl) (by omega) h2 ?_; intro v3 w3 own3 G3 h3; obtain ⟨o3, c3, rfl⟩ := own_slice own3))
  have sl3 : Sl w3 o3 (l.length + 1) c3 4 (quadVals (l ++ [⟨kd, ky, us, tm⟩])) := by have h := Sl.own own3; rw [quadVals_append, show quadVals [(⟨kd, ky, us, tm⟩ : Pl.Ev)] = [.int .i64 kd, .int .i64 ky, .int .i64 us, .int .i64 tm] from rfl]; simpa using h
  have B3 : Below w.heap.size w w3 := B1.trans (G3.mono s1)
  have s3 := B3.size
  replace AB := AB.below G3 AB.lt
  have q3 : w1.heap.size ≤ w3.heap.size := G3.size
  replace hs := hs.below G3 (Nat.le_refl _)
  clear own3 own2 src1 G2 h2 h3 A0 A1 A2 A3 AB2 G3
  have A0 := AB.c 0 _ rfl
  have A1 := AB.c 1 _ rfl
  have A2 := AB.c 2 _ rfl
  have A3 := AB.c 3 _ rfl
  have Af0 := AB.f 0 (Nat.le_of_ble_eq_true rfl)
  have Af1 := AB.f 1 (Nat.le_of_ble_eq_true rfl)
  have Af2 := AB.f 2 (Nat.le_of_ble_eq_true rfl)
  have Af3 := AB.f 3 (Nat.le_of_ble_eq_true rfl)
  have Al := AB.lt
  refine (kValid_n (l ++ [⟨kd, ky, us, tm⟩]) (l.length + 1) (by simp) k t o3 c3 _ sl3 (by omega) hwa.out).mono ?_
  rw [HB.out, HF.out]
  rintro e w4 ⟨rfl, hb4⟩
  have B4 : Below w.heap.size w w4 := bcall (by go_grown) hb4 (by go_size)
  have s4 := B4.size
  have q4 : w3.heap.size ≤ w4.heap.size := by have h := hb4.size; first | omega | (simp at h; omega)
  clear A0 A1 A2 A3 Af0 Af1 Af2 Af3 Al
  replace AB := AB.below hb4 (by have h := AB.lt; go_size)
  have A0 := AB.c 0 _ rfl
  have A1 := AB.c 1 _ rfl
  have A2 := AB.c 2 _ rfl
  have A3 := AB.c 3 _ rfl
  have Af0 := AB.f 0 (Nat.le_of_ble_eq_true rfl)
  have Af1 := AB.f 1 (Nat.le_of_ble_eq_true rfl)
  have Af2 := AB.f 2 (Nat.le_of_ble_eq_true rfl)
  have Af3 := AB.f 3 (Nat.le_of_ble_eq_true rfl)
  have Al := AB.lt
  replace hs := hs.below hb4 (Nat.le_refl _)
  clear hb4
  go_wp2_with fail
  refine (kValid_any l k t oa cap _ (hs.below (by go_grown) (Nat.le_refl _)) hm hw.out).mono ?_
  rw [HC.out, HG.out]
  rintro e w5 ⟨rfl, hb5⟩
  have B5 : Below w.heap.size w w5 := bcall (by go_grown) hb5 (by go_size)
  have s5 := B5.size
  have q5 : w4.heap.size + 1 ≤ w5.heap.size := by have h := hb5.size; first | omega | (simp at h; omega)
  obtain ⟨ba0, ba1, baf, bag, bal⟩ := (Box2.new w4 (.int .i64 F.1) (.int .i64 F.2) 26).below hb5 (by go_size)
  clear A0 A1 A2 A3 Af0 Af1 Af2 Af3 Al
  replace AB := (AB.alloc (.cells #[(.int .i64 F.1), (.int .i64 F.2)] 26)).below hb5 (by have h := AB.lt; go_size)
  have A0 := AB.c 0 _ rfl
  have A1 := AB.c 1 _ rfl
  have A2 := AB.c 2 _ rfl
  have A3 := AB.c 3 _ rfl
  have Af0 := AB.f 0 (Nat.le_of_ble_eq_true rfl)
  have Af1 := AB.f 1 (Nat.le_of_ble_eq_true rfl)
  have Af2 := AB.f 2 (Nat.le_of_ble_eq_true rfl)
  have Af3 := AB.f 3 (Nat.le_of_ble_eq_true rfl)
  have Al := AB.lt
  replace hs := (hs.below (by go_grown) (Nat.le_refl _)).below hb5 (Nat.le_refl _)
  clear hb5
  clear sl3
  by_cases f0 : F.1 = 0
  · have u1 : (F.1 == 0) = true := by simp [f0]
    have u2 : (F.1 != 0) = false := by simp [f0]
    obtain ⟨g0, hbc⟩ := n2.out f0
    have u5 : (G.1 == 0) = true := by simp [g0]
    by_cases t0 : t < tm
    · have u3 : decide (tm ≤ t) = false := by simp; omega
      obtain rfl : B = C := hbc t0
      clear n1 n2 f0 t0 hbc g0
      go_wp2_with fail
      go_ret
      exact ⟨ret_true (by simp), by go_grown⟩
    · have u3 : decide (tm ≤ t) = true := by simp; omega
      clear n1 n2 f0 t0 hbc g0
      go_wp2_with fail
      go_ret
      exact ⟨ret_true (by simp), by go_grown⟩
  · have u1 : (F.1 == 0) = false := by simp [f0]
    have u2 : (F.1 != 0) = true := by simp [f0]
    obtain rfl : B = false := n1.out f0
    clear n1 n2 f0
    go_wp2_with fail
    go_ret
    exact ⟨ret_true (by simp), by go_grown⟩
theorem KeyringHistoryIsStable_main (l : List Pl.Ev) (kd ky us tm : Int) (k t : Int) (oa : Option Addr) (cap : Nat) (w : World) (hs : Sl w oa l.length cap 4 (quadVals l)) (hm : l.length ≤ 9223372036854775807) (hw : ∀ e ∈ l, (Lit.int .i64 e.key).wf = true) (hky : (Lit.int .i64 ky).wf = true) : Calls Try.prog 11 #[.slice oa l.length cap, .agg #[.int .i64 kd, .int .i64 ky, .int .i64 us, .int .i64 tm], .int .i64 k, .int .i64 t] w fun e w' => e = .returned (.bool true) ∧ Below w.heap.size w w' := by
  by_cases h1 : l.length ≤ 40
  · exact KeyringHistoryIsStable_x l kd ky us tm k t oa cap w hs hm hw hky h1
  · exact KeyringHistoryIsStable_long l kd ky us tm k t oa cap w hs hm hw hky (by omega)
end Go.Proofs.Ytkhkijpkgogncaa
