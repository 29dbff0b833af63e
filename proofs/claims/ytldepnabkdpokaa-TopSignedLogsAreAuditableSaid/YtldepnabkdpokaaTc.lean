/- Contracts: Root, prove, Prove. -/
import Derived.Test.YtldepnabkdpokaaTb
import Derived.Test.YtldepnabkdpokaaXe
namespace Go.Proofs.Ytldepnabkdpokaa
open Go.RowKit

namespace Pl
def rootV (xs : List Int) : Int := if (msgF xs).1 = 0 then rootS xs else 0
end Pl
theorem Root_any (xs : List Int) (oa : Option Addr) (cap : Nat) (w : World) (hs : Sl w oa xs.length cap 1 (intVals xs)) (hm : xs.length ≤ 9223372036854775807) :
    Calls Try.prog 17 #[.slice oa xs.length cap] w fun e w' => e = .returned (.tuple #[.int .i64 (Pl.rootV xs), .agg #[.int .i64 (Pl.msgF xs).1, .int .i64 (Pl.msgF xs).2]]) ∧ Below w.heap.size w w' := by
  rcases Pl.logF_cases xs with ⟨hF, hn, hd⟩ | hF
  · have hV : Pl.rootV xs = Pl.rootS xs := by unfold Pl.rootV; rw [hF]; rfl
    rw [hV, hF]
    replace hF := Lib.hid hF
    clear hV
    go_enter Try.func17, Try.ntmps17
    go_wp2_with fail
    refine (tcheck_any xs oa cap _ (hs.below ((Below.refl _ _).alloc (Nat.le_refl _) _) (Nat.le_refl _)) hm).mono ?_
    rw [hF.out]
    rintro e w1 ⟨rfl, hb1⟩
    have B1 : Below w.heap.size w w1 := bcall (by go_grown) hb1 (by simp)
    have s1 := B1.size
    have X1 := ((Box2.new w (.int .i64 0) (.int .i64 0) 27).below hb1 (by simp)).alloc (.cells #[.int .i64 0, .int .i64 0] 27)
    have B2 := B1.alloc s1 (.cells #[.int .i64 0, .int .i64 0] 27)
    have s2 := B2.size
    go_wp2_with fail
    refine (root_any xs.length xs oa cap _ rfl hn hd (hs.below B2 (Nat.le_refl _))).mono ?_
    rintro e w2 ⟨rfl, hb2⟩
    have B3 := bcall B2 hb2 s2
    obtain ⟨c0, c1, f0, f1, l1⟩ := X1.below hb2 X1.lt
    go_wp2_with fail
    refine bodyPost_ret (v := .tuple #[.int .i64 (Pl.rootS xs), .agg #[.int .i64 0, .int .i64 0]]) (by simp [results, Try.results17, go_sem, c0, c1]) rfl ⟨rfl, by go_grown⟩
  · have hV : Pl.rootV xs = 0 := by unfold Pl.rootV; rw [if_neg hF]
    rw [hV]
    obtain ⟨F, hM⟩ : ∃ F, Pl.msgF xs = F := ⟨_, rfl⟩
    rw [hM] at hF ⊢
    replace hM := Lib.hid hM
    have u1 : (F.1 != 0) = true := by simp [hF]
    have u2 : (F.1 == 0) = false := by simp [hF]
    clear hF hV
    go_enter Try.func17, Try.ntmps17
    go_wp2_with fail
    refine (tcheck_any xs oa cap _ (hs.below ((Below.refl _ _).alloc (Nat.le_refl _) _) (Nat.le_refl _)) hm).mono ?_
    rw [hM.out]
    rintro e w1 ⟨rfl, hb1⟩
    have B1 : Below w.heap.size w w1 := bcall (by go_grown) hb1 (by simp)
    obtain ⟨c0, c1, f0, f1, l1⟩ := (Box2.new w (.int .i64 0) (.int .i64 0) 27).below hb1 (by simp)
    have s1 := B1.size
    go_wp2_with fail
    go_region
    go_wp2_with fail
    refine bodyPost_ret (v := .tuple #[.int .i64 0, .agg #[.int .i64 F.1, .int .i64 F.2]]) (by simp [results, Try.results17, go_sem, c0, c1, l1]) rfl ⟨rfl, by go_grown⟩

/-- A new list of numbers. -/
def RetInts (xs : List Int) (w : World) (e : Ending) (w' : World) : Prop :=
  ∃ v, e = .returned v ∧ w'.ownsRow w.heap.size 3 1 v xs.length (intVals xs) ∧ Below w.heap.size w w'

set_option maxHeartbeats 800000 in
theorem prove_any : ∀ (n : Nat) (xs : List Int) (i : Nat) (oa : Option Addr) (cap : Nat) (w : World), xs.length = n → n ≤ 64 → i < n → (∀ x ∈ xs, Pl.isDigestB x = true) → Sl w oa xs.length cap 1 (intVals xs) →
    Calls Try.prog 38 #[.slice oa xs.length cap, .int .i64 (i : Int)] w (RetInts (Pl.proveS xs i) w)
  | n, xs, i, oa, cap, w, hl, hn, hi, hd, hs => by
    by_cases h1 : n ≤ 1
    · obtain rfl : n = 1 := by omega
      rw [Pl.proveS_one xs i (by omega), hl]
      clear hl h1 hd hs
      go_enter Try.func38, Try.ntmps38
      go_wp2
      go_ret
      exact ⟨_, rfl, World.ownsRow_nil _ _ _ _, Below.refl _ _⟩
    · rcases hs.mem with h0 | ⟨b, off, rfl, hlt, hc⟩
      · have : xs = [] := by simpa [intVals] using h0
        rw [this] at hl
        simp at hl
        omega
      · clear hc
        have h3 := Pl.splitN_lt (n := n) (by omega) hn
        have st := hs.take (k := Pl.splitN n) (by omega)
        have sd := hs.drop (k := Pl.splitN n) (by omega) (oa := some ⟨b, off + Pl.splitN n, none⟩) (fun _ => rfl)
        have dt : ∀ x ∈ xs.take (Pl.splitN n), Pl.isDigestB x = true := fun x hx => hd x (List.mem_of_mem_take hx)
        have dd : ∀ x ∈ xs.drop (Pl.splitN n), Pl.isDigestB x = true := fun x hx => hd x (List.mem_of_mem_drop hx)
        have lt : (xs.take (Pl.splitN n)).length = Pl.splitN n := by rw [List.length_take]; omega
        have ld : (xs.drop (Pl.splitN n)).length = n - Pl.splitN n := by rw [List.length_drop, hl]
        have rt := root_any (Pl.splitN n) (xs.take (Pl.splitN n)) (some ⟨b, off, none⟩) cap
        have rd := root_any (n - Pl.splitN n) (xs.drop (Pl.splitN n)) (some ⟨b, off + Pl.splitN n, none⟩) (cap - Pl.splitN n)
        have it := prove_any (Pl.splitN n) (xs.take (Pl.splitN n)) i (some ⟨b, off, none⟩) cap
        have id := prove_any (n - Pl.splitN n) (xs.drop (Pl.splitN n)) (i - Pl.splitN n) (some ⟨b, off + Pl.splitN n, none⟩) (cap - Pl.splitN n)
        replace rt := fun w hw => rt w lt (by omega) dt hw
        replace rd := fun w hw => rd w ld (by omega) dd hw
        replace it := fun w hw hi => it w lt (by omega) hi dt hw
        replace id := fun w hw hi => id w ld (by omega) hi dd hw
        have hr := Pl.proveS_step xs i (by omega) (by omega)
        have pt := Pl.prove_length (l := xs.take (Pl.splitN n)) (i := i) (by omega)
        have pd := Pl.prove_length (l := xs.drop (Pl.splitN n)) (i := i - Pl.splitN n) (by omega)
        have hcap := hs.hcap
        have hmax := hs.hmax
        unfold maxLen at hmax
        rw [hl] at hr hcap ⊢
        rw [lt] at rt it st pt
        rw [ld] at rd id sd pd
        replace rt := Lib.hid rt
        replace rd := Lib.hid rd
        replace it := Lib.hid it
        replace id := Lib.hid id
        generalize hK : Pl.splitN n = K at *
        have hKe := Lib.hid hK
        clear hK lt ld hd hs dt dd
        have k1 : (K : Int) ≤ (n : Int) := by omega
        have k0 : (0 : Int) ≤ (K : Int) := by omega
        have n2 : (2 : Int) ≤ (n : Int) := by omega
        have t1 : ((n : Int) == 1) = false := by rw [beq_eq_false_iff_ne]; omega
        by_cases hik : i < K
        · rw [if_pos hik] at hr
          replace hr := Lib.hid hr
          have pl := pt hik
          have tk : decide ((i : Int) < (K : Int)) = true := by simp; omega
          generalize Pl.rootS (xs.drop K) = R at *
          generalize Pl.proveS (xs.take K) i = S at *
          clear hl pt pd hi
          go_enter Try.func38, Try.ntmps38
          go_wp2_with fail
          refine (split_any n _ hn).mono ?_
          rintro e w' ⟨rfl, rfl⟩
          rw [hKe.out]
          go_wp2_with fail
          refine wp_region_ord [0, 1, 2, 3, 5, 6, 7, 4, 8, 9, 10, 11] (by kernel_rfl) (by kernel_rfl) ?_
          repeat (refine wpI_rd rfl rfl ?_; go_big_quiet_step (fail); refine wpQuiet_nil ?_)
          refine wpI_call (f := 38) (args := #[.slice (some ⟨b, off, none⟩) K cap, .int .i64 (i : Int)]) rfl rfl rfl (by simp [go_sem]) ?_
          refine (it.out _ (st.below (Below.refl _ _).drew (Nat.le_refl _)) hik).mono ?_
          rintro e w1 ⟨v, rfl, own1, hb1⟩
          refine ⟨_, rfl, hb1, ?_⟩
          have B1 : Below w.heap.size w w1 := bcall (by go_grown) hb1 (by go_size)
          have s1 := B1.size
          have own1 : w1.ownsRow w.heap.size 3 1 v S.length (intVals S) := own1
          try simp only [Act.put, List.setIfInBounds_toArray, List.set_cons_zero, List.set_cons_succ]
          repeat (refine wpI_rd rfl rfl ?_; go_big_quiet_step (fail); refine wpQuiet_nil ?_)
          refine wpI_call (f := 37) (args := #[.slice (some ⟨b, off + K, none⟩) (n - K) (cap - K)]) rfl rfl rfl (by simp [go_sem]) ?_
          refine (rd.out _ (sd.below B1 (Nat.le_refl _))).mono ?_
          rintro e w2 ⟨rfl, hb2⟩
          refine ⟨_, rfl, hb2, ?_⟩
          have B2 : Below w.heap.size w w2 := bcall B1 hb2 s1
          have s2 := B2.size
          have own2 := (ownsRow_below own1 hb2 (Nat.le_refl _)).alloc (.cells #[.int .i64 R] 3)
          try simp only [Act.put, List.setIfInBounds_toArray, List.set_cons_zero, List.set_cons_succ]
          refine wpI_add rfl rfl rfl (u := .slice (some ⟨w2.heap.size, 0, none⟩) 1 1) (w' := w2.alloc (.cells #[.int .i64 R] 3)) (by simp [go_sem]) (Below.ext ((Below.refl _ _).alloc (Nat.le_refl _) _)) ?_
          try simp only [Act.put, List.setIfInBounds_toArray, List.set_cons_zero, List.set_cons_succ]
          refine wpI_ap rfl rfl rfl Try.tInts (B2.alloc s2 _) rfl own2 (m := 1) (news := [.int .i64 R]) (Src.ofSlice _ Try.tInts.ht ⟨w2.heap.size, 0, none⟩ 1 1 [.int .i64 R] rfl (fun j u hu => by rw [addr_add]; simp [hu]) (by simp; rfl)) (by omega) (by go_size) ?_
          intro v3 w3 own3 B3 s3
          try simp only [Act.put, List.setIfInBounds_toArray, List.set_cons_zero, List.set_cons_succ]
          repeat (refine wpI_rd rfl rfl ?_; go_big_quiet_step (fail); refine wpQuiet_nil ?_)
          refine wpI_nil ?_
          try simp only [Act.put, List.setIfInBounds_toArray, List.set_cons_zero, List.set_cons_succ]
          go_wp2_with fail
          go_ret
          exact ⟨_, rfl, by rw [hr.out, intVals_append, List.length_append]; exact own3, B3⟩
        · rw [if_neg hik] at hr
          replace hr := Lib.hid hr
          have pl := pd (by omega)
          have tk : decide ((i : Int) < (K : Int)) = false := by simp; omega
          generalize Pl.rootS (xs.take K) = R at *
          obtain ⟨J, hJ⟩ : ∃ J, i - K = J := ⟨_, rfl⟩
          rw [hJ] at hr id pl
          have hJn : J < n - K := by omega
          have e2 : IntKind.i64.wrap ((i : Int) - (K : Int)) = (J : Int) := by rw [IntWalk.i64_in _ (by omega)]; omega
          generalize Pl.proveS (xs.drop K) J = S at *
          clear hl pt pd hi hJ
          go_enter Try.func38, Try.ntmps38
          go_wp2_with fail
          refine (split_any n _ hn).mono ?_
          rintro e w' ⟨rfl, rfl⟩
          rw [hKe.out]
          go_wp2_with fail
          refine wp_region_ord [0, 1, 2, 3, 4, 5, 7, 8, 9, 6, 10, 11, 12, 13] (by kernel_rfl) (by kernel_rfl) ?_
          repeat (refine wpI_rd rfl rfl ?_; go_big_quiet_step (fail); refine wpQuiet_nil ?_)
          refine wpI_call (f := 38) (args := #[.slice (some ⟨b, off + K, none⟩) (n - K) (cap - K), .int .i64 (J : Int)]) rfl rfl rfl (by simp [go_sem]) ?_
          refine (id.out _ (sd.below (Below.refl _ _).drew (Nat.le_refl _)) hJn).mono ?_
          rintro e w1 ⟨v, rfl, own1, hb1⟩
          refine ⟨_, rfl, hb1, ?_⟩
          have B1 : Below w.heap.size w w1 := bcall (by go_grown) hb1 (by go_size)
          have s1 := B1.size
          have own1 : w1.ownsRow w.heap.size 3 1 v S.length (intVals S) := own1
          try simp only [Act.put, List.setIfInBounds_toArray, List.set_cons_zero, List.set_cons_succ]
          repeat (refine wpI_rd rfl rfl ?_; go_big_quiet_step (fail); refine wpQuiet_nil ?_)
          refine wpI_call (f := 37) (args := #[.slice (some ⟨b, off, none⟩) K cap]) rfl rfl rfl (by simp [go_sem]) ?_
          refine (rt.out _ (st.below B1 (Nat.le_refl _))).mono ?_
          rintro e w2 ⟨rfl, hb2⟩
          refine ⟨_, rfl, hb2, ?_⟩
          have B2 : Below w.heap.size w w2 := bcall B1 hb2 s1
          have s2 := B2.size
          have own2 := (ownsRow_below own1 hb2 (Nat.le_refl _)).alloc (.cells #[.int .i64 R] 3)
          try simp only [Act.put, List.setIfInBounds_toArray, List.set_cons_zero, List.set_cons_succ]
          refine wpI_add rfl rfl rfl (u := .slice (some ⟨w2.heap.size, 0, none⟩) 1 1) (w' := w2.alloc (.cells #[.int .i64 R] 3)) (by simp [go_sem]) (Below.ext ((Below.refl _ _).alloc (Nat.le_refl _) _)) ?_
          try simp only [Act.put, List.setIfInBounds_toArray, List.set_cons_zero, List.set_cons_succ]
          refine wpI_ap rfl rfl rfl Try.tInts (B2.alloc s2 _) rfl own2 (m := 1) (news := [.int .i64 R]) (Src.ofSlice _ Try.tInts.ht ⟨w2.heap.size, 0, none⟩ 1 1 [.int .i64 R] rfl (fun j u hu => by rw [addr_add]; simp [hu]) (by simp; rfl)) (by omega) (by go_size) ?_
          intro v3 w3 own3 B3 s3
          try simp only [Act.put, List.setIfInBounds_toArray, List.set_cons_zero, List.set_cons_succ]
          repeat (refine wpI_rd rfl rfl ?_; go_big_quiet_step (fail); refine wpQuiet_nil ?_)
          refine wpI_nil ?_
          try simp only [Act.put, List.setIfInBounds_toArray, List.set_cons_zero, List.set_cons_succ]
          go_wp2_with fail
          go_ret
          exact ⟨_, rfl, by rw [hr.out, intVals_append, List.length_append]; exact own3, B3⟩
termination_by n => n
decreasing_by all_goals omega

namespace Pl
def prvF (xs : List Int) (i : Int) : Int × Int := if (msgF xs).1 = 0 then (if inB i 0 ((xs.length : Int) - 1) = true then (0, 0) else (3, -1)) else msgF xs
def prvV (xs : List Int) (i : Int) : List Int := if (prvF xs i).1 = 0 then proveS xs i.toNat else []
end Pl
/-- A new list of numbers beside a fault. -/
def RetIntsF (xs : List Int) (F : Int × Int) (w : World) (e : Ending) (w' : World) : Prop :=
  ∃ v, e = .returned (.tuple #[v, .agg #[.int .i64 F.1, .int .i64 F.2]]) ∧ w'.ownsRow w.heap.size 3 1 v xs.length (intVals xs) ∧ Below w.heap.size w w'
theorem RetIntsF.bad {xs : List Int} {F G : Int × Int} {w w' : World} (hG : F = G) (hx : xs = []) (hb : Below w.heap.size w w') : RetIntsF xs F w (.returned (.tuple #[.slice none 0 0, .agg #[.int .i64 G.1, .int .i64 G.2]])) w' := by
  subst hG; subst hx
  exact ⟨_, rfl, World.ownsRow_nil _ _ _ _, hb⟩

theorem Prove_any (xs : List Int) (i : Int) (oa : Option Addr) (cap : Nat) (w : World) (hs : Sl w oa xs.length cap 1 (intVals xs)) (hm : xs.length ≤ 9223372036854775807) :
    Calls Try.prog 18 #[.slice oa xs.length cap, .int .i64 i] w (RetIntsF (Pl.prvV xs i) (Pl.prvF xs i) w) := by
  rcases Pl.logF_cases xs with ⟨hF, hn, hd⟩ | hF
  · by_cases hi : Pl.inB i 0 ((xs.length : Int) - 1) = true
    · have hP : Pl.prvF xs i = (0, 0) := by unfold Pl.prvF; rw [hF, if_pos rfl, if_pos hi]
      have hV : Pl.prvV xs i = Pl.proveS xs i.toNat := by unfold Pl.prvV; rw [hP]; rfl
      have hi2 := Pl.inB_true.1 hi
      obtain ⟨i, rfl⟩ := Int.eq_ofNat_of_zero_le hi2.1
      rw [hV, hP, Int.toNat_natCast]
      have hin : i < xs.length := by omega
      have pr := Lib.hid (fun w hw => prove_any xs.length xs i oa cap w rfl hn hin hd hw)
      have k1 : (0 : Int) ≤ (i : Int) := by omega
      have k2 : (i : Int) < (xs.length : Int) := by omega
      replace hF := Lib.hid hF
      clear hV hP hi hi2 hd
      go_enter Try.func18, Try.ntmps18
      go_wp2_with fail
      refine (tcheck_any xs oa cap _ (hs.below ((Below.refl _ _).alloc (Nat.le_refl _) _) (Nat.le_refl _)) hm).mono ?_
      rw [hF.out]
      rintro e w1 ⟨rfl, hb1⟩
      have B1 : Below w.heap.size w w1 := bcall (by go_grown) hb1 (by simp)
      have s1 := B1.size
      have X1 := ((Box2.new w (.int .i64 0) (.int .i64 0) 27).below hb1 (by simp)).alloc (.cells #[.int .i64 0, .int .i64 0] 27)
      have B2 := B1.alloc s1 (.cells #[.int .i64 0, .int .i64 0] 27)
      have s2 := B2.size
      go_wp2_with fail
      refine (pr.out _ (hs.below B2 (Nat.le_refl _))).mono ?_
      rintro e w2 ⟨v, rfl, own2, hb2⟩
      have B3 := bcall B2 hb2 s2
      obtain ⟨c0, c1, f0, f1, l1⟩ := X1.below hb2 X1.lt
      have own3 := ownsRow_setCell_below (ownsRow_setCell_below own2 (a := ⟨w.heap.size, 0, none⟩) (by simp; omega) (.int .i64 0)) (a := ⟨w.heap.size, 1, none⟩) (by simp; omega) (.int .i64 0)
      go_wp2_with fail
      refine bodyPost_ret (by simp [results, Try.results18, go_sem, c0, c1]) rfl ⟨v, rfl, own_base own3 s2, by go_grown⟩
    · have hP : Pl.prvF xs i = (3, -1) := by unfold Pl.prvF; rw [hF, if_pos rfl, if_neg hi]
      have hV : Pl.prvV xs i = [] := by unfold Pl.prvV; rw [hP]; rfl
      have hi2 : i < 0 ∨ (xs.length : Int) ≤ i := by
        have := mt Pl.inB_true.2 hi
        omega
      replace hP := Lib.hid hP
      replace hV := Lib.hid hV
      replace hF := Lib.hid hF
      clear hi
      rcases hi2 with hi2 | hi2
      · have t1 : decide (i < 0) = true := by simpa using hi2
        go_enter Try.func18, Try.ntmps18
        go_wp2_with fail
        refine (tcheck_any xs oa cap _ (hs.below ((Below.refl _ _).alloc (Nat.le_refl _) _) (Nat.le_refl _)) hm).mono ?_
        rw [hF.out]
        rintro e w1 ⟨rfl, hb1⟩
        have B1 : Below w.heap.size w w1 := bcall (by go_grown) hb1 (by simp)
        have s1 := B1.size
        obtain ⟨c0, c1, f0, f1, l1⟩ := (Box2.new w (.int .i64 0) (.int .i64 0) 27).below hb1 (by simp)
        go_wp2_with fail
        refine bodyPost_ret (v := .tuple #[.slice none 0 0, .agg #[.int .i64 3, .int .i64 (-1)]]) (by simp [results, Try.results18, go_sem, c0, c1, l1]) rfl (RetIntsF.bad (G := (3, -1)) hP.out hV.out (by go_grown))
      · have t1 : decide (i < 0) = false := by simp; omega
        have t2 : decide ((xs.length : Int) ≤ i) = true := by simpa using hi2
        go_enter Try.func18, Try.ntmps18
        go_wp2_with fail
        refine (tcheck_any xs oa cap _ (hs.below ((Below.refl _ _).alloc (Nat.le_refl _) _) (Nat.le_refl _)) hm).mono ?_
        rw [hF.out]
        rintro e w1 ⟨rfl, hb1⟩
        have B1 : Below w.heap.size w w1 := bcall (by go_grown) hb1 (by simp)
        have s1 := B1.size
        obtain ⟨c0, c1, f0, f1, l1⟩ := (Box2.new w (.int .i64 0) (.int .i64 0) 27).below hb1 (by simp)
        go_wp2_with fail
        refine bodyPost_ret (v := .tuple #[.slice none 0 0, .agg #[.int .i64 3, .int .i64 (-1)]]) (by simp [results, Try.results18, go_sem, c0, c1, l1]) rfl (RetIntsF.bad (G := (3, -1)) hP.out hV.out (by go_grown))
  · have hP : Pl.prvF xs i = Pl.msgF xs := by unfold Pl.prvF; rw [if_neg hF]
    have hV : Pl.prvV xs i = [] := by unfold Pl.prvV; rw [hP, if_neg hF]
    obtain ⟨F, hM⟩ : ∃ F, Pl.msgF xs = F := ⟨_, rfl⟩
    rw [hM] at hF hP
    replace hM := Lib.hid hM
    replace hP := Lib.hid hP
    replace hV := Lib.hid hV
    have u1 : (F.1 != 0) = true := by simp [hF]
    have u2 : (F.1 == 0) = false := by simp [hF]
    clear hF
    go_enter Try.func18, Try.ntmps18
    go_wp2_with fail
    refine (tcheck_any xs oa cap _ (hs.below ((Below.refl _ _).alloc (Nat.le_refl _) _) (Nat.le_refl _)) hm).mono ?_
    rw [hM.out]
    rintro e w1 ⟨rfl, hb1⟩
    have B1 : Below w.heap.size w w1 := bcall (by go_grown) hb1 (by simp)
    obtain ⟨c0, c1, f0, f1, l1⟩ := (Box2.new w (.int .i64 0) (.int .i64 0) 27).below hb1 (by simp)
    have s1 := B1.size
    go_wp2_with fail
    go_region
    go_wp2_with fail
    refine bodyPost_ret (v := .tuple #[.slice none 0 0, .agg #[.int .i64 F.1, .int .i64 F.2]]) (by simp [results, Try.results18, go_sem, c0, c1, l1]) rfl (RetIntsF.bad hP.out hV.out (by go_grown))
end Go.Proofs.Ytldepnabkdpokaa
