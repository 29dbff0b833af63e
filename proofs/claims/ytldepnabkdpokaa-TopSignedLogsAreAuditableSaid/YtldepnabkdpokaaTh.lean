/- Contract: the check of a consistency proof. -/
import Derived.Test.YtldepnabkdpokaaTg
namespace Go.Proofs.Ytldepnabkdpokaa
open Go.RowKit

/-- What VerifyConsistency does with its four conditions a, b, c, d. -/
theorem VerifyCon_bad (old m root n : Int) (p : List Int) (oa : Option Addr) (cap : Nat) (w : World) (a b c d : Bool) (ha : Pl.isDigestB old = a) (hb : (decide (1 ≤ m) && decide (m ≤ n)) = b) (hc : Pl.isDigestB root = c) (hd : Pl.inB n 1 64 = d)
    (hn : (a && b && c && d) = false) :
    Calls Try.prog 21 #[.int .i64 old, .int .i64 m, .int .i64 root, .int .i64 n, .slice oa p.length cap] w fun e w' => e = .returned (.tuple #[.bool false, .agg #[.int .i64 (Pl.fbF a b c d (0, 0)).1, .int .i64 (Pl.fbF a b c d (0, 0)).2]]) ∧ Below w.heap.size w w' := by
  replace ha := Lib.hid ha
  replace hb := Lib.hid hb
  replace hc := Lib.hid hc
  replace hd := Lib.hid hd
  have i0 : ∀ w, (Instr.index 67 (.agg #[.bool a, .bool b, .bool c, .bool d]) (.int .i64 0)).run Try.prog w = .ok (.bool a) w := fun _ => by kernel_rfl
  have i1 : ∀ w, (Instr.index 67 (.agg #[.bool a, .bool b, .bool c, .bool d]) (.int .i64 1)).run Try.prog w = .ok (.bool b) w := fun _ => by kernel_rfl
  have i2 : ∀ w, (Instr.index 67 (.agg #[.bool a, .bool b, .bool c, .bool d]) (.int .i64 2)).run Try.prog w = .ok (.bool c) w := fun _ => by kernel_rfl
  have i3 : ∀ w, (Instr.index 67 (.agg #[.bool a, .bool b, .bool c, .bool d]) (.int .i64 3)).run Try.prog w = .ok (.bool d) w := fun _ => by kernel_rfl
  go_enter Try.func21, Try.ntmps21
  go_upto_region 1 with fail
  go_cut [12] (fun s wx => s = .pointer (some ⟨w.heap.size + 1, 0, none⟩) ∧ wx = (w.alloc (.cells #[.int .i64 0, .int .i64 0] 27)).alloc (.cells #[.bool a, .bool b, .bool c, .bool d] 67))
  case first =>
    go_wp2_with (go_at_call 31; refine (isDigest_any _ _).mono ?_; rintro e w' ⟨rfl, rfl⟩)
    all_goals go_meet
    all_goals exact ⟨rfl, arr4 ha.out (by rw [← hb.out]; simp; try omega) hc.out (by rw [← hd.out]; unfold Pl.inB; simp; try omega)⟩
  case rest =>
    obtain ⟨rfl, rfl⟩ := hcut
    have fin : ∀ (k : Int) (w' : World), Pl.fbF a b c d (0, 0) = (3, k) → Below w.heap.size w w' → Ending.returned (.tuple #[.bool false, .agg #[.int .i64 3, .int .i64 k]]) = .returned (.tuple #[.bool false, .agg #[.int .i64 (Pl.fbF a b c d (0, 0)).1, .int .i64 (Pl.fbF a b c d (0, 0)).2]]) ∧ Below w.heap.size w w' := fun k w' h1 h2 => by rw [h1]; exact ⟨rfl, h2⟩
    replace fin := Lib.hid fin
    go_wp2_with fail
    refine wp_loop_rounds 5 ?_
    cases a
    · rw [rounds_succ]
      go_wp2_with fail
      refine bodyPost_ret (v := .tuple #[.bool false, .agg #[.int .i64 3, .int .i64 0]]) (by simp [results, Try.results21, go_sem]) rfl (fin.out 0 _ rfl (by go_grown))
    · rw [rounds_succ]
      go_wp2_with fail
      cases b
      · rw [rounds_succ]
        go_wp2_with fail
        refine bodyPost_ret (v := .tuple #[.bool false, .agg #[.int .i64 3, .int .i64 1]]) (by simp [results, Try.results21, go_sem]) rfl (fin.out 1 _ rfl (by go_grown))
      · rw [rounds_succ]
        go_wp2_with fail
        cases c
        · rw [rounds_succ]
          go_wp2_with fail
          refine bodyPost_ret (v := .tuple #[.bool false, .agg #[.int .i64 3, .int .i64 2]]) (by simp [results, Try.results21, go_sem]) rfl (fin.out 2 _ rfl (by go_grown))
        · rw [rounds_succ]
          go_wp2_with fail
          cases d
          · rw [rounds_succ]
            go_wp2_with fail
            refine bodyPost_ret (v := .tuple #[.bool false, .agg #[.int .i64 3, .int .i64 3]]) (by simp [results, Try.results21, go_sem]) rfl (fin.out 3 _ rfl (by go_grown))
          · simp at hn

theorem VerifyConsistency_any (old m root n : Int) (p : List Int) (oa : Option Addr) (cap : Nat) (w : World) (hs : Sl w oa p.length cap 1 (intVals p)) (hm : p.length ≤ 9223372036854775807) :
    Calls Try.prog 21 #[.int .i64 old, .int .i64 m, .int .i64 root, .int .i64 n, .slice oa p.length cap] w fun e w' => e = .returned (.tuple #[.bool (Pl.vcoB old m root n p), .agg #[.int .i64 (Pl.vcoF old m root n p).1, .int .i64 (Pl.vcoF old m root n p).2]]) ∧ Below w.heap.size w w' := by
  by_cases hall : (Pl.isDigestB old && (decide (1 ≤ m) && decide (m ≤ n)) && Pl.isDigestB root && Pl.inB n 1 64) = true
  · simp only [Bool.and_eq_true, decide_eq_true_eq] at hall
    obtain ⟨⟨⟨ha, hc1, hc2⟩, hd⟩, hb⟩ := hall
    have hb2 := Pl.inB_true.1 hb
    have hF : Pl.vcoF old m root n p = Pl.prfF p := by unfold Pl.vcoF Pl.fbF; simp [ha, hb, hc1, hc2, hd]
    have i0 : ∀ w, (Instr.index 67 (.agg #[.bool true, .bool true, .bool true, .bool true]) (.int .i64 0)).run Try.prog w = .ok (.bool true) w := fun _ => by kernel_rfl
    have i1 : ∀ w, (Instr.index 67 (.agg #[.bool true, .bool true, .bool true, .bool true]) (.int .i64 1)).run Try.prog w = .ok (.bool true) w := fun _ => by kernel_rfl
    have i2 : ∀ w, (Instr.index 67 (.agg #[.bool true, .bool true, .bool true, .bool true]) (.int .i64 2)).run Try.prog w = .ok (.bool true) w := fun _ => by kernel_rfl
    have i3 : ∀ w, (Instr.index 67 (.agg #[.bool true, .bool true, .bool true, .bool true]) (.int .i64 3)).run Try.prog w = .ok (.bool true) w := fun _ => by kernel_rfl
    obtain ⟨n, rfl⟩ := Int.eq_ofNat_of_zero_le (by omega : 0 ≤ n)
    obtain ⟨m, rfl⟩ := Int.eq_ofNat_of_zero_le (by omega : 0 ≤ m)
    have b1 : (1 : Int) ≤ (n : Int) := hb2.1
    have b2 : (n : Int) ≤ 64 := hb2.2
    have hn : n ≤ 64 := by omega
    have hm1 : 1 ≤ m := by omega
    have hmn : m ≤ n := by omega
    clear hb hb2
    rcases Pl.prfF_cases p with ⟨hP, hpl, hpd⟩ | hP
    · have hB : Pl.vcoB old m root n p = Pl.refExtB old m root n p := by unfold Pl.vcoB; rw [hF, hP]; simp
      rw [hB, hF, hP]
      replace hP := Lib.hid hP
      rw [← Pl.ext_same hn hm1 hmn]
      clear hB hF
      have hne : ∀ b o, oa = some ⟨b, o, none⟩ → p ≠ [] → b < w.heap.size := by
        intro b o h hp
        rcases hs.mem with h0 | ⟨b', o', h1, h2, _⟩
        · exact absurd (by simpa [intVals] using h0) hp
        · rw [h1] at h; cases h; exact h2
      replace hne := Lib.hid hne
      go_enter Try.func21, Try.ntmps21
      go_wp2_with (go_at_call 31; refine (isDigest_any _ _).mono ?_; rintro e w' ⟨rfl, rfl⟩)
      refine wp_loop_rounds 5 ?_
      rw [rounds_succ]
      go_wp2_with fail
      rw [rounds_succ]
      go_wp2_with fail
      rw [rounds_succ]
      go_wp2_with fail
      rw [rounds_succ]
      go_wp2_with fail
      rw [rounds_succ]
      go_wp2_with fail
      have B0 : Below w.heap.size w ((w.alloc (.cells #[.int .i64 0, .int .i64 0] 27)).alloc (.cells #[.bool true, .bool true, .bool true, .bool true] 67)) := by go_grown
      have X0 := (Box2.new w (.int .i64 0) (.int .i64 0) 27).alloc (.cells #[.bool true, .bool true, .bool true, .bool true] 67)
      refine (checkProof_any p oa cap _ (hs.below B0 (Nat.le_refl _)) hm).mono ?_
      rw [hP.out]
      rintro e w1 ⟨rfl, hb1⟩
      have B1 : Below w.heap.size w w1 := bcall B0 hb1 (by go_size)
      have s1 := B1.size
      have X1 := X0.below hb1 X0.lt
      clear hb1 B0 X0
      have q1 : w.heap.size < w1.heap.size := X1.lt
      have X2 := (X1.alloc (.cells #[.int .i64 0, .int .i64 0] 27)).alloc (.cells #[.slice oa p.length cap, .bool false] 70)
      have R2 : Rd ((w1.alloc (.cells #[.int .i64 0, .int .i64 0] 27)).alloc (.cells #[.slice oa p.length cap, .bool false] 70)) (w1.heap.size + 1) p false := by
        have BX := Box2.new (w1.alloc (.cells #[.int .i64 0, .int .i64 0] 27)) (.slice oa p.length cap) (.bool false) 70
        simp only [World.size_alloc] at BX
        exact ⟨oa, cap, BX, hs.below (by go_grown) (Nat.le_refl _), fun hp b o h => by have := hne.out b o h hp; omega⟩
      obtain ⟨c0, c1, f0, f1, l1⟩ := X1
      go_wp2_with fail
      refine (continued_any n m old true (w1.heap.size + 1) p false _ hn hm1 hmn ha hpd R2).mono ?_
      rintro e w2 ⟨rfl, o2⟩
      obtain ⟨⟨v, u, q, s2⟩, hv⟩ : ∃ st, Pl.conS n m true old p false = st := ⟨_, rfl⟩
      have hql : q.length ≤ 64 := by
        have := Pl.conS_left' n m true old p false
        rw [hv] at this
        exact Nat.le_trans this hpl
      rw [hv] at o2 ⊢
      replace hv := Lib.hid hv
      have B2 : Below w.heap.size w w2 := Below.grown (by go_grown) o2.grown (by simp; omega) (fun k hk => by cases hk; omega)
      have s2' := B2.size
      have q2 := o2.grown.size
      simp only [World.size_alloc] at q2
      have c0 := o2.grown.cell X2.c0 (by simp; omega)
      have c1 := o2.grown.cell X2.c1 (by simp; omega)
      have f0 := (World.frozen?_of_block (a := ⟨w.heap.size, 0, none⟩) (o2.grown.block w.heap.size (by simp; omega) (by simp; omega))).trans X2.f0
      have f1 := (World.frozen?_of_block (a := ⟨w.heap.size, 1, none⟩) (o2.grown.block w.heap.size (by simp; omega) (by simp; omega))).trans X2.f1
      have l1 : w.heap.size < w2.heap.size := by omega
      have rd2 := o2.rd
      clear o2 X2 R2
      cases hvr : (v == old)
      · go_wp2_with fail
        refine bodyPost_ret (v := .tuple #[.bool false, .agg #[.int .i64 0, .int .i64 0]]) (by simp [results, Try.results21, go_sem, c0, c1]) rfl ⟨by rw [hv.out]; simp [hvr], by go_grown⟩
      · cases hur : (u == root)
        · go_wp2_with fail
          refine bodyPost_ret (v := .tuple #[.bool false, .agg #[.int .i64 0, .int .i64 0]]) (by simp [results, Try.results21, go_sem, c0, c1]) rfl ⟨by rw [hv.out]; simp [hvr, hur], by go_grown⟩
        · go_wp2_with fail
          refine (done_any (w1.heap.size + 1) q s2 _ rd2 hql).mono ?_
          rintro e w3 ⟨rfl, rfl⟩
          go_wp2_with fail
          refine bodyPost_ret (v := .tuple #[.bool (Pl.doneB (q, s2)), .agg #[.int .i64 0, .int .i64 0]]) (by simp [results, Try.results21, go_sem, c0, c1]) rfl ⟨by rw [hv.out]; simp [hvr, hur], by go_grown⟩
    · have hB : Pl.vcoB old m root n p = false := by unfold Pl.vcoB; rw [hF]; simp [hP]
      rw [hB, hF]
      obtain ⟨F, hFe⟩ : ∃ F, Pl.prfF p = F := ⟨_, rfl⟩
      rw [hFe] at hP ⊢
      have u1 : (F.1 != 0) = true := by simp [hP]
      have u2 : (F.1 == 0) = false := by simp [hP]
      clear hP hF hB
      have hP := Lib.hid hFe
      clear hFe
      go_enter Try.func21, Try.ntmps21
      go_wp2_with (go_at_call 31; refine (isDigest_any _ _).mono ?_; rintro e w' ⟨rfl, rfl⟩)
      refine wp_loop_rounds 5 ?_
      rw [rounds_succ]
      go_wp2_with fail
      rw [rounds_succ]
      go_wp2_with fail
      rw [rounds_succ]
      go_wp2_with fail
      rw [rounds_succ]
      go_wp2_with fail
      rw [rounds_succ]
      go_wp2_with fail
      have B0 : Below w.heap.size w ((w.alloc (.cells #[.int .i64 0, .int .i64 0] 27)).alloc (.cells #[.bool true, .bool true, .bool true, .bool true] 67)) := by go_grown
      have X0 := (Box2.new w (.int .i64 0) (.int .i64 0) 27).alloc (.cells #[.bool true, .bool true, .bool true, .bool true] 67)
      refine (checkProof_any p oa cap _ (hs.below B0 (Nat.le_refl _)) hm).mono ?_
      rw [hP.out]
      rintro e w1 ⟨rfl, hb1⟩
      have B1 : Below w.heap.size w w1 := bcall B0 hb1 (by go_size)
      have s1 := B1.size
      have X1 := X0.below hb1 X0.lt
      clear hb1 B0 X0
      obtain ⟨c0, c1, f0, f1, l1⟩ := X1
      go_wp2_with fail
      go_region
      go_wp2_with fail
      refine bodyPost_ret (v := .tuple #[.bool false, .agg #[.int .i64 F.1, .int .i64 F.2]]) (by simp [results, Try.results21, go_sem, c0, c1, l1]) rfl ⟨rfl, by go_grown⟩
  · have hall : (Pl.isDigestB old && (decide (1 ≤ m) && decide (m ≤ n)) && Pl.isDigestB root && Pl.inB n 1 64) = false := by simpa using hall
    have h1 := VerifyCon_bad old m root n p oa cap w _ _ _ _ rfl rfl rfl rfl hall
    have h2 := Pl.fbF_bad (F := Pl.prfF p) hall
    have hB : Pl.vcoB old m root n p = false := by unfold Pl.vcoB; rw [show Pl.vcoF old m root n p = Pl.fbF (Pl.isDigestB old) (decide (1 ≤ m) && decide (m ≤ n)) (Pl.isDigestB root) (Pl.inB n 1 64) (Pl.prfF p) from rfl, decide_eq_false h2]; rfl
    have hF : Pl.vcoF old m root n p = Pl.fbF (Pl.isDigestB old) (decide (1 ≤ m) && decide (m ≤ n)) (Pl.isDigestB root) (Pl.inB n 1 64) (0, 0) := Pl.fbF_any hall _ _
    rw [hB, hF]
    exact h1
end Go.Proofs.Ytldepnabkdpokaa
