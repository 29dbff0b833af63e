/- Contracts: consistency, ProveConsistency. -/
import Derived.Test.YtldepnabkdpokaaTc
namespace Go.Proofs.Ytldepnabkdpokaa
open Go.RowKit

/-- A literal's row is an own row. -/
theorem ownsRow_lit {w : World} {B : Nat} {e : TypeId} {size n : Nat} {C : List Value} (hl : C.length = n * size) (hB : B ≤ w.heap.size) (hm : n ≤ maxLen) : (w.alloc (.cells C.toArray e)).ownsRow B e size (.slice (some ⟨w.heap.size, 0, none⟩) n n) n C :=
  ⟨hl, .inr ⟨w.heap.size, n, C.toArray, rfl, hB, heap_alloc_new w _, Nat.le_refl _, hm, by simp [hl], by rw [← hl]; simp⟩⟩

set_option maxHeartbeats 800000 in
theorem consistency_any : ∀ (n : Nat) (xs : List Int) (m : Nat) (kn : Bool) (oa : Option Addr) (cap : Nat) (w : World), xs.length = n → n ≤ 64 → 1 ≤ m → m ≤ n → (∀ x ∈ xs, Pl.isDigestB x = true) → Sl w oa xs.length cap 1 (intVals xs) →
    Calls Try.prog 39 #[.slice oa xs.length cap, .int .i64 (m : Int), .bool kn] w (RetInts (Pl.consS xs m kn) w)
  | n, xs, m, kn, oa, cap, w, hl, hn, hm1, hmn, hd, hs => by
    by_cases h1 : m = n
    · subst h1
      have e := Pl.consS_all xs kn
      rw [hl] at e
      rw [e]
      have rt := Lib.hid (fun w hw => root_any m xs oa cap w hl hn hd hw)
      rw [hl] at rt hs ⊢
      clear e hl hd
      cases kn
      · go_enter Try.func39, Try.ntmps39
        go_wp2_with fail
        refine (rt.out _ hs).mono ?_
        rintro e w1 ⟨rfl, hb1⟩
        have s1 := hb1.size
        go_wp2_with fail
        go_ret
        exact ⟨_, rfl, ownsRow_lit rfl s1 (by simp [maxLen]), hb1.alloc s1 _⟩
      · go_enter Try.func39, Try.ntmps39
        go_wp2
        go_ret
        exact ⟨_, rfl, World.ownsRow_nil _ _ _ _, Below.refl _ _⟩
    · rcases hs.mem with h0 | ⟨b, off, rfl, hlt, hc⟩
      · have : xs = [] := by simpa [intVals] using h0
        rw [this] at hl
        simp at hl
        omega
      · clear hc
        have h3 := Pl.splitN_lt (n := n) (by omega) hn
        have st := hs.take (k := Pl.splitN n) (by omega)
        have sd := hs.drop (k := Pl.splitN n) (by omega) (oa := some ⟨b, off + Pl.splitN n, none⟩) (fun _ => rfl)
        have dt : ∀ x ∈ xs.take (Pl.splitN n), Pl.isDigestB x = true := fun x hx => hd x (List.mem_of_mem_take hx)
        have dd : ∀ x ∈ xs.drop (Pl.splitN n), Pl.isDigestB x = true := fun x hx => hd x (List.mem_of_mem_drop hx)
        have lt : (xs.take (Pl.splitN n)).length = Pl.splitN n := by rw [List.length_take]; omega
        have ld : (xs.drop (Pl.splitN n)).length = n - Pl.splitN n := by rw [List.length_drop, hl]
        have rt := root_any (Pl.splitN n) (xs.take (Pl.splitN n)) (some ⟨b, off, none⟩) cap
        have rd := root_any (n - Pl.splitN n) (xs.drop (Pl.splitN n)) (some ⟨b, off + Pl.splitN n, none⟩) (cap - Pl.splitN n)
        have it := consistency_any (Pl.splitN n) (xs.take (Pl.splitN n)) m kn (some ⟨b, off, none⟩) cap
        have id := consistency_any (n - Pl.splitN n) (xs.drop (Pl.splitN n)) (m - Pl.splitN n) false (some ⟨b, off + Pl.splitN n, none⟩) (cap - Pl.splitN n)
        replace rt := fun w hw => rt w lt (by omega) dt hw
        replace rd := fun w hw => rd w ld (by omega) dd hw
        replace it := fun w hw hi => it w lt (by omega) hm1 hi dt hw
        replace id := fun w hw h1 hi => id w ld (by omega) h1 hi dd hw
        have hr := Pl.consS_step xs m kn hm1 (by omega) (by omega)
        have pt : (Pl.consS (xs.take (Pl.splitN n)) m kn).length ≤ 64 := Pl.consF_length 64 _ _ _
        have pd : (Pl.consS (xs.drop (Pl.splitN n)) (m - Pl.splitN n) false).length ≤ 64 := Pl.consF_length 64 _ _ _
        have hcap := hs.hcap
        have hmax := hs.hmax
        unfold maxLen at hmax
        rw [hl] at hr hcap ⊢
        rw [lt] at rt it st
        rw [ld] at rd id sd
        replace rt := Lib.hid rt
        replace rd := Lib.hid rd
        replace it := Lib.hid it
        replace id := Lib.hid id
        generalize hK : Pl.splitN n = K at *
        have hKe := Lib.hid hK
        clear hK lt ld hd hs dt dd
        have k1 : (K : Int) ≤ (n : Int) := by omega
        have k0 : (0 : Int) ≤ (K : Int) := by omega
        have n2 : (2 : Int) ≤ (n : Int) := by omega
        have t1 : ((m : Int) == (n : Int)) = false := by rw [beq_eq_false_iff_ne]; omega
        by_cases hik : m ≤ K
        · rw [if_pos hik] at hr
          replace hr := Lib.hid hr
          have pl := pt
          have tk : decide ((m : Int) ≤ (K : Int)) = true := by simp; omega
          generalize Pl.rootS (xs.drop K) = R at *
          generalize Pl.consS (xs.take K) m kn = S at *
          clear hl pt pd
          go_enter Try.func39, Try.ntmps39
          go_wp2_with fail
          refine (split_any n _ hn).mono ?_
          rintro e w' ⟨rfl, rfl⟩
          rw [hKe.out]
          go_wp2_with fail
          refine wp_region_ord [0, 1, 2, 3, 4, 6, 7, 8, 5, 9, 10, 11, 12] (by kernel_rfl) (by kernel_rfl) ?_
          repeat (refine wpI_rd rfl rfl ?_; go_big_quiet_step (fail); refine wpQuiet_nil ?_)
          refine wpI_call (f := 39) (args := #[.slice (some ⟨b, off, none⟩) K cap, .int .i64 (m : Int), .bool kn]) rfl rfl rfl (by simp [go_sem]) ?_
          refine (it.out _ (st.below (Below.refl _ _).drew (Nat.le_refl _)) hik).mono ?_
          rintro e w1 ⟨v, rfl, own1, hb1⟩
          refine ⟨_, rfl, hb1, ?_⟩
          have B1 : Below w.heap.size w w1 := bcall (by go_grown) hb1 (by go_size)
          have s1 := B1.size
          have own1 : w1.ownsRow w.heap.size 3 1 v S.length (intVals S) := own1
          try simp only [Act.put, List.setIfInBounds_toArray, List.set_cons_zero, List.set_cons_succ]
          repeat (refine wpI_rd rfl rfl ?_; go_big_quiet_step (fail); refine wpQuiet_nil ?_)
          refine wpI_call (f := 37) (args := #[.slice (some ⟨b, off + K, none⟩) (n - K) (cap - K)]) rfl rfl rfl (by simp [go_sem]) ?_
          refine (rd.out _ (sd.below B1 (Nat.le_refl _))).mono ?_
          rintro e w2 ⟨rfl, hb2⟩
          refine ⟨_, rfl, hb2, ?_⟩
          have B2 : Below w.heap.size w w2 := bcall B1 hb2 s1
          have s2 := B2.size
          have own2 := (ownsRow_below own1 hb2 (Nat.le_refl _)).alloc (.cells #[.int .i64 R] 3)
          try simp only [Act.put, List.setIfInBounds_toArray, List.set_cons_zero, List.set_cons_succ]
          refine wpI_add rfl rfl rfl (u := .slice (some ⟨w2.heap.size, 0, none⟩) 1 1) (w' := w2.alloc (.cells #[.int .i64 R] 3)) (by simp [go_sem]) (Below.ext ((Below.refl _ _).alloc (Nat.le_refl _) _)) ?_
          try simp only [Act.put, List.setIfInBounds_toArray, List.set_cons_zero, List.set_cons_succ]
          refine wpI_ap rfl rfl rfl Try.tInts (B2.alloc s2 _) rfl own2 (m := 1) (news := [.int .i64 R]) (Src.ofSlice _ Try.tInts.ht ⟨w2.heap.size, 0, none⟩ 1 1 [.int .i64 R] rfl (fun j u hu => by rw [addr_add]; simp [hu]) (by simp; rfl)) (by omega) (by go_size) ?_
          intro v3 w3 own3 B3 s3
          try simp only [Act.put, List.setIfInBounds_toArray, List.set_cons_zero, List.set_cons_succ]
          repeat (refine wpI_rd rfl rfl ?_; go_big_quiet_step (fail); refine wpQuiet_nil ?_)
          refine wpI_nil ?_
          try simp only [Act.put, List.setIfInBounds_toArray, List.set_cons_zero, List.set_cons_succ]
          go_wp2_with fail
          go_ret
          exact ⟨_, rfl, by rw [hr.out, intVals_append, List.length_append]; exact own3, B3⟩
        · rw [if_neg hik] at hr
          replace hr := Lib.hid hr
          have pl := pd
          have tk : decide ((m : Int) ≤ (K : Int)) = false := by simp; omega
          generalize Pl.rootS (xs.take K) = R at *
          obtain ⟨J, hJ⟩ : ∃ J, m - K = J := ⟨_, rfl⟩
          rw [hJ] at hr id pl
          have hJ0 : 1 ≤ J := by omega
          have hJn : J ≤ n - K := by omega
          have e2 : IntKind.i64.wrap ((m : Int) - (K : Int)) = (J : Int) := by rw [IntWalk.i64_in _ (by omega)]; omega
          generalize Pl.consS (xs.drop K) J false = S at *
          clear hl pt pd hJ
          go_enter Try.func39, Try.ntmps39
          go_wp2_with fail
          refine (split_any n _ hn).mono ?_
          rintro e w' ⟨rfl, rfl⟩
          rw [hKe.out]
          go_wp2_with fail
          refine wp_region_ord [0, 1, 2, 3, 4, 5, 7, 8, 9, 6, 10, 11, 12, 13] (by kernel_rfl) (by kernel_rfl) ?_
          repeat (refine wpI_rd rfl rfl ?_; go_big_quiet_step (fail); refine wpQuiet_nil ?_)
          refine wpI_call (f := 39) (args := #[.slice (some ⟨b, off + K, none⟩) (n - K) (cap - K), .int .i64 (J : Int), .bool false]) rfl rfl rfl (by simp [go_sem]) ?_
          refine (id.out _ (sd.below (Below.refl _ _).drew (Nat.le_refl _)) hJ0 hJn).mono ?_
          rintro e w1 ⟨v, rfl, own1, hb1⟩
          refine ⟨_, rfl, hb1, ?_⟩
          have B1 : Below w.heap.size w w1 := bcall (by go_grown) hb1 (by go_size)
          have s1 := B1.size
          have own1 : w1.ownsRow w.heap.size 3 1 v S.length (intVals S) := own1
          try simp only [Act.put, List.setIfInBounds_toArray, List.set_cons_zero, List.set_cons_succ]
          repeat (refine wpI_rd rfl rfl ?_; go_big_quiet_step (fail); refine wpQuiet_nil ?_)
          refine wpI_call (f := 37) (args := #[.slice (some ⟨b, off, none⟩) K cap]) rfl rfl rfl (by simp [go_sem]) ?_
          refine (rt.out _ (st.below B1 (Nat.le_refl _))).mono ?_
          rintro e w2 ⟨rfl, hb2⟩
          refine ⟨_, rfl, hb2, ?_⟩
          have B2 : Below w.heap.size w w2 := bcall B1 hb2 s1
          have s2 := B2.size
          have own2 := (ownsRow_below own1 hb2 (Nat.le_refl _)).alloc (.cells #[.int .i64 R] 3)
          try simp only [Act.put, List.setIfInBounds_toArray, List.set_cons_zero, List.set_cons_succ]
          refine wpI_add rfl rfl rfl (u := .slice (some ⟨w2.heap.size, 0, none⟩) 1 1) (w' := w2.alloc (.cells #[.int .i64 R] 3)) (by simp [go_sem]) (Below.ext ((Below.refl _ _).alloc (Nat.le_refl _) _)) ?_
          try simp only [Act.put, List.setIfInBounds_toArray, List.set_cons_zero, List.set_cons_succ]
          refine wpI_ap rfl rfl rfl Try.tInts (B2.alloc s2 _) rfl own2 (m := 1) (news := [.int .i64 R]) (Src.ofSlice _ Try.tInts.ht ⟨w2.heap.size, 0, none⟩ 1 1 [.int .i64 R] rfl (fun j u hu => by rw [addr_add]; simp [hu]) (by simp; rfl)) (by omega) (by go_size) ?_
          intro v3 w3 own3 B3 s3
          try simp only [Act.put, List.setIfInBounds_toArray, List.set_cons_zero, List.set_cons_succ]
          repeat (refine wpI_rd rfl rfl ?_; go_big_quiet_step (fail); refine wpQuiet_nil ?_)
          refine wpI_nil ?_
          try simp only [Act.put, List.setIfInBounds_toArray, List.set_cons_zero, List.set_cons_succ]
          go_wp2_with fail
          go_ret
          exact ⟨_, rfl, by rw [hr.out, intVals_append, List.length_append]; exact own3, B3⟩
termination_by n => n
decreasing_by all_goals omega
namespace Pl
def pcoF (xs : List Int) (i : Int) : Int × Int := if (msgF xs).1 = 0 then (if inB i 1 (xs.length : Int) = true then (0, 0) else (3, -1)) else msgF xs
def pcoV (xs : List Int) (i : Int) : List Int := if (pcoF xs i).1 = 0 then consS xs i.toNat true else []
end Pl
theorem ProveConsistency_any (xs : List Int) (i : Int) (oa : Option Addr) (cap : Nat) (w : World) (hs : Sl w oa xs.length cap 1 (intVals xs)) (hm : xs.length ≤ 9223372036854775807) :
    Calls Try.prog 19 #[.slice oa xs.length cap, .int .i64 i] w (RetIntsF (Pl.pcoV xs i) (Pl.pcoF xs i) w) := by
  rcases Pl.logF_cases xs with ⟨hF, hn, hd⟩ | hF
  · by_cases hi : Pl.inB i 1 (xs.length : Int) = true
    · have hP : Pl.pcoF xs i = (0, 0) := by unfold Pl.pcoF; rw [hF, if_pos rfl, if_pos hi]
      have hV : Pl.pcoV xs i = Pl.consS xs i.toNat true := by unfold Pl.pcoV; rw [hP]; rfl
      have hi2 := Pl.inB_true.1 hi
      obtain ⟨i, rfl⟩ := Int.eq_ofNat_of_zero_le (by omega : 0 ≤ i)
      rw [hV, hP, Int.toNat_natCast]
      have hin : i ≤ xs.length := by omega
      have hin1 : 1 ≤ i := by omega
      have pr := Lib.hid (fun w hw => consistency_any xs.length xs i true oa cap w rfl hn hin1 hin hd hw)
      have k1 : (1 : Int) ≤ (i : Int) := by omega
      have k2 : (i : Int) ≤ (xs.length : Int) := by omega
      replace hF := Lib.hid hF
      clear hV hP hi hi2 hd
      go_enter Try.func19, Try.ntmps19
      go_wp2_with fail
      refine (tcheck_any xs oa cap _ (hs.below ((Below.refl _ _).alloc (Nat.le_refl _) _) (Nat.le_refl _)) hm).mono ?_
      rw [hF.out]
      rintro e w1 ⟨rfl, hb1⟩
      have B1 : Below w.heap.size w w1 := bcall (by go_grown) hb1 (by simp)
      have s1 := B1.size
      have X1 := ((Box2.new w (.int .i64 0) (.int .i64 0) 27).below hb1 (by simp)).alloc (.cells #[.int .i64 0, .int .i64 0] 27)
      have B2 := B1.alloc s1 (.cells #[.int .i64 0, .int .i64 0] 27)
      have s2 := B2.size
      go_wp2_with fail
      refine (pr.out _ (hs.below B2 (Nat.le_refl _))).mono ?_
      rintro e w2 ⟨v, rfl, own2, hb2⟩
      have B3 := bcall B2 hb2 s2
      obtain ⟨c0, c1, f0, f1, l1⟩ := X1.below hb2 X1.lt
      have own3 := ownsRow_setCell_below (ownsRow_setCell_below own2 (a := ⟨w.heap.size, 0, none⟩) (by simp; omega) (.int .i64 0)) (a := ⟨w.heap.size, 1, none⟩) (by simp; omega) (.int .i64 0)
      go_wp2_with fail
      refine bodyPost_ret (by simp [results, Try.results19, go_sem, c0, c1]) rfl ⟨v, rfl, own_base own3 s2, by go_grown⟩
    · have hP : Pl.pcoF xs i = (3, -1) := by unfold Pl.pcoF; rw [hF, if_pos rfl, if_neg hi]
      have hV : Pl.pcoV xs i = [] := by unfold Pl.pcoV; rw [hP]; rfl
      have hi2 : i < 1 ∨ (xs.length : Int) < i := by
        have := mt Pl.inB_true.2 hi
        omega
      replace hP := Lib.hid hP
      replace hV := Lib.hid hV
      replace hF := Lib.hid hF
      clear hi
      rcases hi2 with hi2 | hi2
      · have t1 : decide (i < 1) = true := by simpa using hi2
        go_enter Try.func19, Try.ntmps19
        go_wp2_with fail
        refine (tcheck_any xs oa cap _ (hs.below ((Below.refl _ _).alloc (Nat.le_refl _) _) (Nat.le_refl _)) hm).mono ?_
        rw [hF.out]
        rintro e w1 ⟨rfl, hb1⟩
        have B1 : Below w.heap.size w w1 := bcall (by go_grown) hb1 (by simp)
        have s1 := B1.size
        obtain ⟨c0, c1, f0, f1, l1⟩ := (Box2.new w (.int .i64 0) (.int .i64 0) 27).below hb1 (by simp)
        go_wp2_with fail
        refine bodyPost_ret (v := .tuple #[.slice none 0 0, .agg #[.int .i64 3, .int .i64 (-1)]]) (by simp [results, Try.results19, go_sem, c0, c1, l1]) rfl (RetIntsF.bad (G := (3, -1)) hP.out hV.out (by go_grown))
      · have t1 : decide (i < 1) = false := by simp; omega
        have t2 : decide ((xs.length : Int) < i) = true := by simpa using hi2
        go_enter Try.func19, Try.ntmps19
        go_wp2_with fail
        refine (tcheck_any xs oa cap _ (hs.below ((Below.refl _ _).alloc (Nat.le_refl _) _) (Nat.le_refl _)) hm).mono ?_
        rw [hF.out]
        rintro e w1 ⟨rfl, hb1⟩
        have B1 : Below w.heap.size w w1 := bcall (by go_grown) hb1 (by simp)
        have s1 := B1.size
        obtain ⟨c0, c1, f0, f1, l1⟩ := (Box2.new w (.int .i64 0) (.int .i64 0) 27).below hb1 (by simp)
        go_wp2_with fail
        refine bodyPost_ret (v := .tuple #[.slice none 0 0, .agg #[.int .i64 3, .int .i64 (-1)]]) (by simp [results, Try.results19, go_sem, c0, c1, l1]) rfl (RetIntsF.bad (G := (3, -1)) hP.out hV.out (by go_grown))
  · have hP : Pl.pcoF xs i = Pl.msgF xs := by unfold Pl.pcoF; rw [if_neg hF]
    have hV : Pl.pcoV xs i = [] := by unfold Pl.pcoV; rw [hP, if_neg hF]
    obtain ⟨F, hM⟩ : ∃ F, Pl.msgF xs = F := ⟨_, rfl⟩
    rw [hM] at hF hP
    replace hM := Lib.hid hM
    replace hP := Lib.hid hP
    replace hV := Lib.hid hV
    have u1 : (F.1 != 0) = true := by simp [hF]
    have u2 : (F.1 == 0) = false := by simp [hF]
    clear hF
    go_enter Try.func19, Try.ntmps19
    go_wp2_with fail
    refine (tcheck_any xs oa cap _ (hs.below ((Below.refl _ _).alloc (Nat.le_refl _) _) (Nat.le_refl _)) hm).mono ?_
    rw [hM.out]
    rintro e w1 ⟨rfl, hb1⟩
    have B1 : Below w.heap.size w w1 := bcall (by go_grown) hb1 (by simp)
    obtain ⟨c0, c1, f0, f1, l1⟩ := (Box2.new w (.int .i64 0) (.int .i64 0) 27).below hb1 (by simp)
    have s1 := B1.size
    go_wp2_with fail
    go_region
    go_wp2_with fail
    refine bodyPost_ret (v := .tuple #[.slice none 0 0, .agg #[.int .i64 F.1, .int .i64 F.2]]) (by simp [results, Try.results19, go_sem, c0, c1, l1]) rfl (RetIntsF.bad hP.out hV.out (by go_grown))
end Go.Proofs.Ytldepnabkdpokaa
