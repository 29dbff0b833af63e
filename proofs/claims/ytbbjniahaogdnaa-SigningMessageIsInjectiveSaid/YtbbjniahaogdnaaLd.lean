/- The law: different lists of digests have different messages. -/
import Derived.Test.YtbbjniahaogdnaaLb
import Derived.Test.YtbbjniahaogdnaaKc
namespace Go.Proofs.Ytbbjniahaogdnaa
open Go.RowKit
namespace Pl
theorem dstep (a b : Int) (h : a % 256 = b % 256) (h2 : a / 256 = b / 256) : a = b := by omega
theorem big_inj0 (n m : Int) (h0 : 0 ≤ n) (h1 : n < 2305843009213693951) (g0 : 0 ≤ m) (g1 : m < 2305843009213693951)
  (e7 : n / 72057594037927936 % 256 = m / 72057594037927936 % 256) (e6 : n / 281474976710656 % 256 = m / 281474976710656 % 256) (e5 : n / 1099511627776 % 256 = m / 1099511627776 % 256)
  (e4 : n / 4294967296 % 256 = m / 4294967296 % 256) (e3 : n / 16777216 % 256 = m / 16777216 % 256) (e2 : n / 65536 % 256 = m / 65536 % 256) (e1 : n / 256 % 256 = m / 256 % 256) (e0 : n % 256 = m % 256) : n = m := by
  have dd (x : Int) (a b c : Int) (ha : 0 ≤ a) (hc : a * b = c) : x / a / b = x / c := by rw [Int.ediv_ediv_of_nonneg ha, hc]
  have k7 : n / 72057594037927936 = m / 72057594037927936 := by
    clear e6 e5 e4 e3 e2 e1 e0 dd; omega
  have k6 := dstep _ _ e6 (by rw [dd n _ _ 72057594037927936 (by decide) (by decide), dd m _ _ 72057594037927936 (by decide) (by decide)]; exact k7)
  have k5 := dstep _ _ e5 (by rw [dd n _ _ 281474976710656 (by decide) (by decide), dd m _ _ 281474976710656 (by decide) (by decide)]; exact k6)
  have k4 := dstep _ _ e4 (by rw [dd n _ _ 1099511627776 (by decide) (by decide), dd m _ _ 1099511627776 (by decide) (by decide)]; exact k5)
  have k3 := dstep _ _ e3 (by rw [dd n _ _ 4294967296 (by decide) (by decide), dd m _ _ 4294967296 (by decide) (by decide)]; exact k4)
  have k2 := dstep _ _ e2 (by rw [dd n _ _ 16777216 (by decide) (by decide), dd m _ _ 16777216 (by decide) (by decide)]; exact k3)
  have k1 := dstep _ _ e1 (by rw [dd n _ _ 65536 (by decide) (by decide), dd m _ _ 65536 (by decide) (by decide)]; exact k2)
  exact dstep _ _ e0 k1

theorem bigS_inj {n m : Int} (hn : isDigestB n = true) (hm : isDigestB m = true) (h : bigS n = bigS m) : n = m := by
  have rn := isDigestB_true.1 hn
  have rm := isDigestB_true.1 hm
  unfold bigS at h
  simp only [List.cons.injEq, and_true] at h
  obtain ⟨e7, e6, e5, e4, e3, e2, e1, e0⟩ := h
  have g : ∀ x y : Int, b8 x = b8 y → x % 256 = y % 256 := fun x y e => by rw [← b8_nat, ← b8_nat, e]
  exact big_inj0 n m (by omega) (by omega) (by omega) (by omega) (g _ _ e7) (g _ _ e6) (g _ _ e5) (g _ _ e4) (g _ _ e3) (g _ _ e2) (g _ _ e1) (g _ _ e0)
theorem msgS_inj : ∀ {xs ys : List Int}, (∀ x ∈ xs, isDigestB x = true) → (∀ x ∈ ys, isDigestB x = true) → msgS xs = msgS ys → xs = ys
  | [], [], _, _, _ => rfl
  | [], y :: ys, _, _, h => by have := congrArg List.length h; simp [msgS, bigS] at this
  | x :: xs, [], _, _, h => by have := congrArg List.length h; simp [msgS, bigS] at this
  | x :: xs, y :: ys, hx, hy, h => by
    have h' : bigS x ++ msgS xs = bigS y ++ msgS ys := h
    obtain ⟨h1, h2⟩ := List.append_inj h' rfl
    rw [bigS_inj (hx x (by simp)) (hy y (by simp)) h1, msgS_inj (fun a ha => hx a (by simp [ha])) (fun a ha => hy a (by simp [ha])) h2]
theorem msgF_cases (xs : List Int) : msgF xs = (0, 0) ∧ xs.length ≤ 64 ∧ (∀ x ∈ xs, isDigestB x = true) ∨ (msgF xs).1 ≠ 0 := by
  unfold msgF
  by_cases h : xs.length ≤ 64
  · rw [if_pos h]
    unfold digF
    cases hf : xs.findIdx? (fun x => !isDigestB x) with
    | none => exact .inl ⟨rfl, h, UpTo.of_none hf⟩
    | some i => exact .inr (by simp)
  · rw [if_neg h]
    exact .inr (by decide)
end Pl

set_option maxHeartbeats 400000 in
theorem SMI_ok (xs ys : List Int) (oa ob : Option Addr) (ca cb : Nat) (w : World) (hs : Sl w oa xs.length ca 1 (intVals xs)) (ht : Sl w ob ys.length cb 1 (intVals ys))
    (hn : xs.length ≤ 64) (hF : Pl.msgF xs = (0, 0)) (hd : ∀ x ∈ xs, Pl.isDigestB x = true) (hn2 : ys.length ≤ 64) (hF2 : Pl.msgF ys = (0, 0)) (hd2 : ∀ x ∈ ys, Pl.isDigestB x = true) :
    Calls Try.prog 6 #[.slice oa xs.length ca, .slice ob ys.length cb] w fun e w' => e = .returned (.bool true) ∧ Below w.heap.size w w' := by
  have HF := Lib.hid hF
  have HV := Lib.hid (Pl.msgV_ok hF)
  have HF2 := Lib.hid hF2
  have HV2 := Lib.hid (Pl.msgV_ok hF2)
  have HL := Lib.hid (Pl.msgS_length xs)
  have HI := Lib.hid (show (Pl.msgS xs == Pl.msgS ys) = decide (xs = ys) by
    by_cases h : xs = ys
    · subst h; simp
    · have : ¬ Pl.msgS xs = Pl.msgS ys := fun e => h (Pl.msgS_inj hd hd2 e)
      simp [h, this])
  clear hd hF hd2 hF2
  go_enter Try.func6, Try.ntmps6
  go_wp2_with fail
  refine (signs_any w).mono ?_
  rintro e w1 ⟨rfl, B1⟩
  have s1 := B1.size
  go_wp2_with fail
  refine (Message_any xs oa ca _ (hs.below B1 (Nat.le_refl _)) (by omega)).mono ?_
  rintro e w2 ⟨om, cm, rfl, hown, hb2⟩
  rw [HF.out, HV.out]
  rw [HV.out] at hown
  have B2 := bcall B1 hb2 s1
  have s2 := B2.size
  have X1 := Box2.new w2 (.int .i64 0) (.int .i64 0) 26
  have M1 := (Sl.own hown).below (B := w2.heap.size) ((Below.refl _ _).alloc (Nat.le_refl _) (.cells #[.int .i64 0, .int .i64 0] 26)) (Nat.le_refl _)
  go_wp2_with fail
  refine (Message_any ys ob cb _ (ht.below (B2.alloc s2 _) (Nat.le_refl _)) (by omega)).mono ?_
  rintro e w3 ⟨on, cn, rfl, hown2, hb3⟩
  rw [HF2.out, HV2.out]
  rw [HV2.out] at hown2
  have B3 := bcall (B2.alloc s2 _) hb3 (by go_size)
  have s3 := B3.size
  have X1 := (X1.below hb3 X1.lt).alloc (.cells #[.int .i64 0, .int .i64 0] 26)
  have X2 := Box2.new w3 (.int .i64 0) (.int .i64 0) 26
  have M1 := (M1.below hb3 (Nat.le_refl _)).below (B := w3.heap.size) ((Below.refl _ _).alloc (Nat.le_refl _) (.cells #[.int .i64 0, .int .i64 0] 26)) (Nat.le_refl _)
  have M2 := (Sl.own hown2).below (B := w3.heap.size) ((Below.refl _ _).alloc (Nat.le_refl _) (.cells #[.int .i64 0, .int .i64 0] 26)) (Nat.le_refl _)
  have B4 := B3.alloc s3 (.cells #[.int .i64 0, .int .i64 0] 26)
  have a0 := X1.c0
  clear hown hown2 hb3 hb2
  have tl : (((Pl.msgS xs).length : Int) == 8 * (xs.length : Int)) = true := by simp [HL.out]
  go_wp2_with fail
  have M1 := M1.drew
  have M2 := M2.drew
  have B5 := B4.drew
  have s5 := B5.size
  generalize hW : (w3.alloc (.cells #[.int .i64 0, .int .i64 0] 26)).drew = W at *
  have h1 := run_b2s_ext (P := Try.prog) (src := 22) (dst := 9) Try.underlying22 Try.underlying5 Try.underlying9 M1
  have h2 := run_b2s_ext (P := Try.prog) (src := 22) (dst := 9) Try.underlying22 Try.underlying5 Try.underlying9 M2
  refine wp_region_ord [0, 1, 2, 3, 4, 5, 6, 7, 8, 9, 10, 11, 12, 13, 14, 15, 16, 17] (by kernel_rfl) (by kernel_rfl) ?_
  rw [hW]
  clear hW
  repeat (refine wpI_rd rfl rfl ?_; go_big_quiet_step (fail); refine wpQuiet_nil ?_)
  refine wpI_call (f := 24) (args := #[.slice oa xs.length ca, .slice ob ys.length cb]) rfl rfl rfl (by simp [go_sem]) ?_
  refine (Ints_any xs ys oa ob ca cb _ (hs.below B5 (Nat.le_refl _)) (ht.below B5 (Nat.le_refl _)) (by omega) (by omega)).mono ?_
  rintro e w5 ⟨rfl, hb5⟩
  refine ⟨_, rfl, hb5, ?_⟩
  have B6 := bcall B5 hb5 s5
  simp only [Act.put, List.setIfInBounds_toArray, List.set_cons_zero, List.set_cons_succ]
  repeat (refine wpI_rd rfl rfl ?_; go_big_quiet_step (fail); refine wpQuiet_nil ?_)
  refine wpI_nil ?_
  go_wp2_with fail
  go_ret
  exact ⟨ret_bool (by rw [HI.out]; simp), B6⟩

theorem SMI_bad (xs ys : List Int) (oa ob : Option Addr) (ca cb : Nat) (w : World) (hs : Sl w oa xs.length ca 1 (intVals xs)) (ht : Sl w ob ys.length cb 1 (intVals ys))
    (hm : xs.length ≤ 9223372036854775807) (hm2 : ys.length ≤ 9223372036854775807) (hF : (Pl.msgF xs).1 ≠ 0 ∨ (Pl.msgF ys).1 ≠ 0) :
    Calls Try.prog 6 #[.slice oa xs.length ca, .slice ob ys.length cb] w fun e w' => e = .returned (.bool true) ∧ Below w.heap.size w w' := by
  generalize hM : Pl.msgF xs = FA at *
  have HM := Lib.hid hM
  generalize hN : Pl.msgF ys = FB at *
  have HN := Lib.hid hN
  clear hM hN
  have HF := Lib.hid hF
  clear hF
  go_enter Try.func6, Try.ntmps6
  go_wp2_with fail
  refine (signs_any w).mono ?_
  rintro e w1 ⟨rfl, B1⟩
  have s1 := B1.size
  go_wp2_with fail
  refine (Message_any xs oa ca _ (hs.below B1 (Nat.le_refl _)) (by omega)).mono ?_
  rintro e w2 ⟨om, cm, rfl, hown, hb2⟩
  rw [HM.out]
  clear hown
  have B2 := bcall B1 hb2 s1
  have s2 := B2.size
  have X1 := Box2.new w2 (.int .i64 FA.1) (.int .i64 FA.2) 26
  go_wp2_with fail
  refine (Message_any ys ob cb _ (ht.below (B2.alloc s2 _) (Nat.le_refl _)) (by omega)).mono ?_
  rintro e w3 ⟨on, cn, rfl, hown2, hb3⟩
  rw [HN.out]
  clear hown2
  have B3 := bcall (B2.alloc s2 _) hb3 (by go_size)
  have s3 := B3.size
  obtain ⟨a0, _, _, _, la⟩ := (X1.below hb3 X1.lt).alloc (.cells #[.int .i64 FB.1, .int .i64 FB.2] 26)
  have B4 := B3.alloc s3 (.cells #[.int .i64 FB.1, .int .i64 FB.2] 26)
  have s4 := B4.size
  by_cases hA : FA.1 = 0
  · have t1 : (FA.1 != 0) = false := by simp [hA]
    have t2 : (FB.1 != 0) = true := by
      rcases HF.out with h | h
      · exact absurd hA h
      · simp [h]
    clear hA
    go_wp2_with fail
    refine (MessageFault_any xs oa ca _ (hs.below B4 (Nat.le_refl _)) (by omega)).mono ?_
    rw [HM.out]
    rintro e w5 ⟨rfl, hb5⟩
    have B5 := bcall B4 hb5 s4
    have s5 := B5.size
    go_wp2_with fail
    refine (MessageFault_any ys ob cb _ (ht.below B5 (Nat.le_refl _)) (by omega)).mono ?_
    rw [HN.out]
    rintro e w6 ⟨rfl, hb6⟩
    have B6 := bcall B5 hb6 s5
    go_wp2_with fail
    go_ret
    exact ⟨rfl, B6⟩
  · have t1 : (FA.1 != 0) = true := by simp [hA]
    clear hA
    go_wp2_with fail
    refine (MessageFault_any xs oa ca _ (hs.below B4 (Nat.le_refl _)) (by omega)).mono ?_
    rw [HM.out]
    rintro e w5 ⟨rfl, hb5⟩
    have B5 := bcall B4 hb5 s4
    go_wp2_with fail
    go_ret
    exact ⟨rfl, B5⟩

theorem SigningMessageIsInjective_main (xs ys : List Int) (oa ob : Option Addr) (ca cb : Nat) (w : World) (hs : Sl w oa xs.length ca 1 (intVals xs)) (hm : xs.length ≤ 9223372036854775807)
    (ht : Sl w ob ys.length cb 1 (intVals ys)) (hm2 : ys.length ≤ 9223372036854775807) :
    Calls Try.prog 6 #[.slice oa xs.length ca, .slice ob ys.length cb] w fun e w' => e = .returned (.bool true) ∧ Below w.heap.size w w' := by
  rcases Pl.msgF_cases xs with ⟨h1, h2, h3⟩ | h
  · rcases Pl.msgF_cases ys with ⟨g1, g2, g3⟩ | g
    · exact SMI_ok xs ys oa ob ca cb w hs ht h2 h1 h3 g2 g1 g3
    · exact SMI_bad xs ys oa ob ca cb w hs ht hm hm2 (.inr g)
  · exact SMI_bad xs ys oa ob ca cb w hs ht hm hm2 (.inl h)
end Go.Proofs.Ytbbjniahaogdnaa
