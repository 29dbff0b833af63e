/- The law KeyringBeginningsAreValid returns true. -/
import Derived.Test.YtkhkijpkgogncaaVi
namespace Go.Proofs.Ytkhkijpkgogncaa
open Go.RowKit

namespace Pl
theorem krAt_first (l : List Ev) (i : Nat) (hne : evAt l i ≠ 0) : ∀ f k, (∀ j, k ≤ j → j < i → evAt l j = 0) → k ≤ i → i < k + f → krAt l f k = (evAt l i, (i : Int))
  | 0, k, _, h1, h2 => by omega
  | f + 1, k, hz, h1, h2 => by
    rw [krAt]
    by_cases h : k = i
    · subst h; rw [if_neg hne]
    · rw [if_pos (hz k (Nat.le_refl _) (by omega))]
      exact krAt_first l i hne f (k + 1) (fun j a b => hz j (by omega) b) (by omega) (by omega)
theorem first_bad (l : List Ev) : ∀ n, n ≤ l.length → (∀ j, j < n → evAt l j = 0) ∨ ∃ i, i < n ∧ (∀ j, j < i → evAt l j = 0) ∧ evAt l i ≠ 0
  | 0, _ => .inl (fun j h => absurd h (by omega))
  | n + 1, hn => by
    rcases first_bad l n (by omega) with h | ⟨i, h1, h2, h3⟩
    · by_cases h4 : evAt l n = 0
      · refine .inl fun j hj => ?_
        by_cases e : j = n
        · subst e; exact h4
        · exact h j (by omega)
      · exact .inr ⟨n, by omega, h, h4⟩
    · exact .inr ⟨i, by omega, h2, h3⟩
theorem krF_first {l : List Ev} (h40 : l.length ≤ 40) {i : Nat} (hi : i < l.length) (hz : ∀ j, j < i → evAt l j = 0) (hne : evAt l i ≠ 0) : krF l = (evAt l i, (i : Int)) := by
  unfold krF
  rw [if_pos h40]
  exact krAt_first l i hne _ 0 (fun j _ h => hz j h) (by omega) (by omega)
theorem evAt_take (l : List Ev) (n i : Nat) (hi : i < n) (_ : n ≤ l.length) : evAt (l.take n) i = evAt l i := by
  unfold evAt
  rw [List.take_take, Nat.min_eq_left (by omega), List.getD_eq_getElem?_getD, List.getElem?_take_of_lt hi, ← List.getD_eq_getElem?_getD]
theorem begins {l : List Ev} (h40 : l.length ≤ 40) {n : Nat} (hn : n ≤ l.length) :
    (krF (l.take n) = (0, 0) ∧ ((krF l).1 = 0 ∨ (n : Int) ≤ (krF l).2)) ∨ (krF (l.take n) = krF l ∧ (krF l).1 ≠ 0 ∧ (krF l).2 < (n : Int)) := by
  have hl : (l.take n).length = n := by rw [List.length_take]; omega
  rcases first_bad l n hn with h | ⟨i, h1, h2, h3⟩
  · left
    refine ⟨krF_ok (by omega) (fun j hj => ?_), ?_⟩
    · rw [hl] at hj
      rw [evAt_take l n j hj hn]
      exact h j hj
    · rcases first_bad l l.length (Nat.le_refl _) with g | ⟨i, g1, g2, g3⟩
      · left; rw [krF_ok h40 (fun j hj => g j hj)]
      · right
        rw [krF_first h40 g1 g2 g3]
        have : n ≤ i := by
          rcases Nat.lt_or_ge i n with hlt | hge
          · exact absurd (h i hlt) g3
          · exact hge
        show (n : Int) ≤ (i : Int)
        omega
  · right
    have e1 := krF_first h40 (by omega : i < l.length) h2 h3
    have e2 := krF_first (l := l.take n) (by omega) (i := i) (by omega) (fun j hj => by rw [evAt_take l n j (by omega) hn]; exact h2 j hj) (by rw [evAt_take l n i h1 hn]; exact h3)
    rw [evAt_take l n i h1 hn] at e2
    rw [e1, e2]
    exact ⟨rfl, h3, by show (i : Int) < (n : Int); omega⟩
end Pl
theorem kValidate_n (l : List Pl.Ev) (n : Nat) (hn : l.length = n) (oa : Option Addr) (cap : Nat) (w : World) (hs : Sl w oa n cap 4 (quadVals l)) (hm : n ≤ 9223372036854775807) (hw : ∀ e ∈ l, (Lit.int .i64 e.key).wf = true) :
    Calls Try.prog 33 #[.slice oa n cap] w fun e w' => e = .returned (.agg #[.int .i64 (Pl.krF l).1, .int .i64 (Pl.krF l).2]) ∧ Below w.heap.size w w' := by
  subst hn
  exact kValidate_any l oa cap w hs hm hw
set_option maxRecDepth 100000 in
set_option maxHeartbeats 2000000 in
theorem KeyringBeginningsAreValid_long (l : List Pl.Ev) (n : Int) (oa : Option Addr) (cap : Nat) (w : World) (hs : Sl w oa l.length cap 4 (quadVals l)) (hm : l.length ≤ 9223372036854775807) (hw : ∀ e ∈ l, (Lit.int .i64 e.key).wf = true) (h : 40 < l.length) : Calls Try.prog 14 #[.slice oa l.length cap, .int .i64 n] w fun e w' => e = .returned (.bool true) ∧ Below w.heap.size w w' := by
  have d1 : decide (40 < l.length) = true := by simp; omega
  have d12 : decide ((40 : Int) < (l.length : Int)) = true := by simp; omega
  have HF := Lib.hid (show Pl.krF l = (2, -1) by unfold Pl.krF; rw [if_neg (by omega)])
  go_enter Try.func14, Try.ntmps14
  go_wp2_with fail
  refine (kValidate_any l oa cap _ hs hm hw).mono ?_
  rw [HF.out]
  rintro e w1 ⟨rfl, hb1⟩
  have B1 : Below w.heap.size w w1 := bcall (by go_grown) hb1 (by go_size)
  have s1 := B1.size
  have q1 : w.heap.size ≤ w1.heap.size := by have h := hb1.size; first | omega | (simp at h; omega)
  clear hb1
  go_wp2_with fail
  refine wp_region_ord [0, 1, 2, 3, 4, 5, 6, 7, 8, 9, 10, 11] (by kernel_rfl) (by kernel_rfl) ?_
  repeat (refine wpI_rd rfl rfl ?_; go_big_quiet_step (fail); refine wpQuiet_nil ?_)
  refine wpI_call (f := 32) (args := #[]) rfl rfl rfl (by simp [go_sem]) ?_
  refine (keys_any _).mono ?_
  rintro e w2 ⟨rfl, hb2⟩
  refine ⟨_, rfl, hb2, ?_⟩
  have B2 : Below w.heap.size w w2 := bcall (by go_grown) hb2 (by go_size)
  have s2 := B2.size
  have q2 : w1.heap.size + 1 ≤ w2.heap.size := by have h := hb2.size; first | omega | (simp at h; omega)
  obtain ⟨ba0, ba1, baf, bag, bal⟩ := (Box2.new w1 (.int .i64 2) (.int .i64 (-1)) 26).drew.below hb2 (by go_size)
  clear hb2
  try simp only [Act.put, List.setIfInBounds_toArray, List.set_cons_zero, List.set_cons_succ]
  repeat (refine wpI_rd rfl rfl ?_; go_big_quiet_step (fail); refine wpQuiet_nil ?_)
  refine wpI_call (f := 17) (args := #[.int .i64 2, .int .i64 (-1)]) rfl rfl rfl (by simp [go_sem]) ?_
  refine (fault_any _ _ _).mono ?_
  rintro e w3 ⟨rfl, hb3⟩
  refine ⟨_, rfl, hb3, ?_⟩
  have B3 : Below w.heap.size w w3 := bcall (by go_grown) hb3 (by go_size)
  have s3 := B3.size
  have q3 : w2.heap.size ≤ w3.heap.size := by have h := hb3.size; first | omega | (simp at h; omega)
  obtain ⟨ba0, ba1, baf, bag, bal⟩ := (Box2.mk ba0 ba1 baf bag bal).below hb3 (by go_size)
  clear hb3
  try simp only [Act.put, List.setIfInBounds_toArray, List.set_cons_zero, List.set_cons_succ]
  repeat (refine wpI_rd rfl rfl ?_; go_big_quiet_step (fail); refine wpQuiet_nil ?_)
  refine wpI_nil ?_
  try simp only [Act.put, List.setIfInBounds_toArray, List.set_cons_zero, List.set_cons_succ]
  go_wp2_with (first | (go_at_call 18; refine (lin_any _ _ _ _).mono ?_; rintro e w' ⟨rfl, rfl⟩))
  all_goals (go_ret; exact ⟨ret_true (by simp), by go_grown⟩)
set_option maxRecDepth 100000 in
set_option maxHeartbeats 2000000 in
theorem KeyringBeginningsAreValid_out (l : List Pl.Ev) (n : Int) (oa : Option Addr) (cap : Nat) (w : World) (hs : Sl w oa l.length cap 4 (quadVals l)) (hm : l.length ≤ 9223372036854775807) (hw : ∀ e ∈ l, (Lit.int .i64 e.key).wf = true) (h : l.length ≤ 40) (hi : Pl.inB n 0 (l.length : Int) = false) : Calls Try.prog 14 #[.slice oa l.length cap, .int .i64 n] w fun e w' => e = .returned (.bool true) ∧ Below w.heap.size w w' := by
  have d1 : decide (40 < l.length) = false := by simp; omega
  have d12 : decide ((40 : Int) < (l.length : Int)) = false := by simp; omega
  obtain ⟨F, hF⟩ : ∃ x, Pl.krF l = x := ⟨_, rfl⟩
  have HF := Lib.hid hF
  clear hF
  go_enter Try.func14, Try.ntmps14
  go_wp2_with fail
  refine (kValidate_any l oa cap _ hs hm hw).mono ?_
  rw [HF.out]
  rintro e w1 ⟨rfl, hb1⟩
  have B1 : Below w.heap.size w w1 := bcall (by go_grown) hb1 (by go_size)
  have s1 := B1.size
  have q1 : w.heap.size ≤ w1.heap.size := by have h := hb1.size; first | omega | (simp at h; omega)
  clear hb1
  go_wp2_with fail
  refine wp_region_ord [0, 1, 2, 3, 4, 5, 6, 7, 8, 9, 10, 11] (by kernel_rfl) (by kernel_rfl) ?_
  repeat (refine wpI_rd rfl rfl ?_; go_big_quiet_step (fail); refine wpQuiet_nil ?_)
  refine wpI_call (f := 32) (args := #[]) rfl rfl rfl (by simp [go_sem]) ?_
  refine (keys_any _).mono ?_
  rintro e w2 ⟨rfl, hb2⟩
  refine ⟨_, rfl, hb2, ?_⟩
  have B2 : Below w.heap.size w w2 := bcall (by go_grown) hb2 (by go_size)
  have s2 := B2.size
  have q2 : w1.heap.size + 1 ≤ w2.heap.size := by have h := hb2.size; first | omega | (simp at h; omega)
  obtain ⟨ba0, ba1, baf, bag, bal⟩ := (Box2.new w1 (.int .i64 F.1) (.int .i64 F.2) 26).drew.below hb2 (by go_size)
  clear hb2
  try simp only [Act.put, List.setIfInBounds_toArray, List.set_cons_zero, List.set_cons_succ]
  repeat (refine wpI_rd rfl rfl ?_; go_big_quiet_step (fail); refine wpQuiet_nil ?_)
  refine wpI_skip rfl rfl ?_
  try simp only [Act.put, List.setIfInBounds_toArray, List.set_cons_zero, List.set_cons_succ]
  repeat (refine wpI_rd rfl rfl ?_; go_big_quiet_step (fail); refine wpQuiet_nil ?_)
  refine wpI_nil ?_
  try simp only [Act.put, List.setIfInBounds_toArray, List.set_cons_zero, List.set_cons_succ]
  go_wp2_with (first | (go_at_call 18; refine (lin_any _ _ _ _).mono ?_; rintro e w' ⟨rfl, rfl⟩))
  go_ret
  exact ⟨ret_true (by simp), by go_grown⟩
set_option maxRecDepth 100000 in
set_option maxHeartbeats 2000000 in
theorem KeyringBeginningsAreValid_in (l : List Pl.Ev) (n : Nat) (oa : Option Addr) (cap : Nat) (w : World) (hs : Sl w oa l.length cap 4 (quadVals l)) (hm : l.length ≤ 9223372036854775807) (hw : ∀ e ∈ l, (Lit.int .i64 e.key).wf = true) (h : l.length ≤ 40) (hn : n ≤ l.length) : Calls Try.prog 14 #[.slice oa l.length cap, .int .i64 (n : Int)] w fun e w' => e = .returned (.bool true) ∧ Below w.heap.size w w' := by
  have d1 : decide (40 < l.length) = false := by simp; omega
  have d12 : decide ((40 : Int) < (l.length : Int)) = false := by simp; omega
  obtain ⟨F, hF⟩ : ∃ x, Pl.krF l = x := ⟨_, rfl⟩
  have HF := Lib.hid hF
  have HB := Lib.hid (Pl.begins h hn)
  obtain ⟨G, hG⟩ : ∃ x, Pl.krF (l.take n) = x := ⟨_, rfl⟩
  have HG := Lib.hid hG
  have hi : Pl.inB (n : Int) 0 (l.length : Int) = true := Pl.inB_true.2 (by omega)
  have n1 : (n : Int) ≤ (l.length : Int) := by omega
  have hcap := hs.hcap
  have n2 : (n : Int) ≤ (cap : Int) := by omega
  have n3 : (0 : Int) ≤ (n : Int) := by omega
  clear hF hG
  go_enter Try.func14, Try.ntmps14
  go_wp2_with fail
  refine (kValidate_any l oa cap _ hs hm hw).mono ?_
  rw [HF.out]
  rintro e w1 ⟨rfl, hb1⟩
  have B1 : Below w.heap.size w w1 := bcall (by go_grown) hb1 (by go_size)
  have s1 := B1.size
  have q1 : w.heap.size ≤ w1.heap.size := by have h := hb1.size; first | omega | (simp at h; omega)
  replace hs := hs.below hb1 (Nat.le_refl _)
  clear hb1
  go_wp2_with fail
  refine wp_region_ord [0, 1, 2, 3, 4, 5, 6, 7, 8, 9, 10, 11] (by kernel_rfl) (by kernel_rfl) ?_
  repeat (refine wpI_rd rfl rfl ?_; go_big_quiet_step (fail); refine wpQuiet_nil ?_)
  refine wpI_call (f := 32) (args := #[]) rfl rfl rfl (by simp [go_sem]) ?_
  refine (keys_any _).mono ?_
  rintro e w2 ⟨rfl, hb2⟩
  refine ⟨_, rfl, hb2, ?_⟩
  have B2 : Below w.heap.size w w2 := bcall (by go_grown) hb2 (by go_size)
  have s2 := B2.size
  have q2 : w1.heap.size + 1 ≤ w2.heap.size := by have h := hb2.size; first | omega | (simp at h; omega)
  obtain ⟨ba0, ba1, baf, bag, bal⟩ := (Box2.new w1 (.int .i64 F.1) (.int .i64 F.2) 26).drew.below hb2 (by go_size)
  replace hs := (hs.below (by go_grown) (Nat.le_refl _)).below hb2 (Nat.le_refl _)
  clear hb2
  try simp only [Act.put, List.setIfInBounds_toArray, List.set_cons_zero, List.set_cons_succ]
  repeat (refine wpI_rd rfl rfl ?_; go_big_quiet_step (fail); refine wpQuiet_nil ?_)
  refine wpI_skip rfl rfl ?_
  try simp only [Act.put, List.setIfInBounds_toArray, List.set_cons_zero, List.set_cons_succ]
  repeat (refine wpI_rd rfl rfl ?_; go_big_quiet_step (fail); refine wpQuiet_nil ?_)
  refine wpI_nil ?_
  try simp only [Act.put, List.setIfInBounds_toArray, List.set_cons_zero, List.set_cons_succ]
  go_wp2_with (first | (go_at_call 18; refine (lin_any _ _ _ _).mono ?_; rintro e w' ⟨rfl, rfl⟩))
  have hl : (l.take n).length = n := by rw [List.length_take]; omega
  have hst := hs.takeQ (k := n) hn (ob := oa) (.inl rfl)
  have hwt := Lib.hid (fun e he => hw e (List.mem_of_mem_take he) : ∀ e ∈ l.take n, (Lit.int .i64 e.key).wf = true)
  clear hw
  have hb := HB.out
  rw [HF.out, HG.out] at hb
  clear HB
  rcases hb with ⟨rfl, hb⟩ | ⟨rfl, hb, hc⟩
  · by_cases f0 : F.1 = 0
    · have u1 : (F.1 == 0) = true := by simp [f0]
      clear hb f0
      refine (kValidate_n (l.take n) n hl oa cap _ hst (by omega) hwt.out).mono ?_
      rw [HG.out]
      rintro e w3 ⟨rfl, hb3⟩
      have B3 : Below w.heap.size w w3 := bcall (by go_grown) hb3 (by go_size)
      have s3 := B3.size
      have q3 : w2.heap.size ≤ w3.heap.size := by have h := hb3.size; first | omega | (simp at h; omega)
      obtain ⟨ba0, ba1, baf, bag, bal⟩ := (Box2.mk ba0 ba1 baf bag bal).below hb3 (by go_size)
      replace hs := hs.below hb3 (Nat.le_refl _)
      clear hb3
      go_wp2_with fail
      go_ret
      exact ⟨ret_true (by simp), by go_grown⟩
    · have u1 : (F.1 == 0) = false := by simp [f0]
      have u2 : decide ((n : Int) ≤ F.2) = true := by rcases hb with h | h; exact absurd h f0; simpa using h
      clear hb f0
      refine (kValidate_n (l.take n) n hl oa cap _ hst (by omega) hwt.out).mono ?_
      rw [HG.out]
      rintro e w3 ⟨rfl, hb3⟩
      have B3 : Below w.heap.size w w3 := bcall (by go_grown) hb3 (by go_size)
      have s3 := B3.size
      have q3 : w2.heap.size ≤ w3.heap.size := by have h := hb3.size; first | omega | (simp at h; omega)
      obtain ⟨ba0, ba1, baf, bag, bal⟩ := (Box2.mk ba0 ba1 baf bag bal).below hb3 (by go_size)
      replace hs := hs.below hb3 (Nat.le_refl _)
      clear hb3
      go_wp2_with fail
      go_ret
      exact ⟨ret_true (by simp), by go_grown⟩
  · have u1 : (G.1 == 0) = false := by simp [hb]
    have u2 : decide (G.2 < (n : Int)) = true := by simpa using hc
    clear hb hc
    refine (kValidate_n (l.take n) n hl oa cap _ hst (by omega) hwt.out).mono ?_
    rw [HG.out]
    rintro e w3 ⟨rfl, hb3⟩
    have B3 : Below w.heap.size w w3 := bcall (by go_grown) hb3 (by go_size)
    have s3 := B3.size
    have q3 : w2.heap.size ≤ w3.heap.size := by have h := hb3.size; first | omega | (simp at h; omega)
    obtain ⟨ba0, ba1, baf, bag, bal⟩ := (Box2.mk ba0 ba1 baf bag bal).below hb3 (by go_size)
    replace hs := hs.below hb3 (Nat.le_refl _)
    clear hb3
    go_wp2_with fail
    go_ret
    exact ⟨ret_true (by simp), by go_grown⟩
theorem KeyringBeginningsAreValid_main (l : List Pl.Ev) (n : Int) (oa : Option Addr) (cap : Nat) (w : World) (hs : Sl w oa l.length cap 4 (quadVals l)) (hm : l.length ≤ 9223372036854775807) (hw : ∀ e ∈ l, (Lit.int .i64 e.key).wf = true) :
    Calls Try.prog 14 #[.slice oa l.length cap, .int .i64 n] w fun e w' => e = .returned (.bool true) ∧ Below w.heap.size w w' := by
  by_cases h : l.length ≤ 40
  · cases hi : Pl.inB n 0 (l.length : Int) with
    | false => exact KeyringBeginningsAreValid_out l n oa cap w hs hm hw h hi
    | true =>
      have hb := Pl.inB_true.1 hi
      obtain ⟨n, rfl⟩ := Int.eq_ofNat_of_zero_le hb.1
      exact KeyringBeginningsAreValid_in l n oa cap w hs hm hw h (by omega)
  · exact KeyringBeginningsAreValid_long l n oa cap w hs hm hw (by omega)
end Go.Proofs.Ytkhkijpkgogncaa
