/- The law TranslogExtensionsVerify returns true. -/
import Derived.Test.YtplcbhcbahiheaaTs
namespace Go.Proofs.Ytplcbhcbahiheaa
open Go.RowKit

namespace Pl
theorem msgF_ok {p : List Int} (h : p.length ≤ 64) (hd : ∀ x ∈ p, isDigestB x = true) : msgF p = (0, 0) := by
  rcases logF_cases p with ⟨h1, _⟩ | h1
  · exact h1
  · exfalso
    apply h1
    have hf : p.findIdx? (fun x => !isDigestB x) = none := by
      rw [List.findIdx?_eq_none_iff]
      intro x hx
      simp [hd x hx]
    unfold msgF digF
    rw [if_pos h, hf]
theorem vcoF_prove {xs : List Int} {m : Nat} (hn : xs.length ≤ 64) (h1 : 1 ≤ m) (hm : m ≤ xs.length) (hd : ∀ x ∈ xs, isDigestB x = true) : vcoF (rootS (xs.take m)) (m : Int) (rootS xs) (xs.length : Int) (consS xs m true) = (0, 0) ∧ vcoB (rootS (xs.take m)) (m : Int) (rootS xs) (xs.length : Int) (consS xs m true) = true := by
  have e1 : inB (xs.length : Int) 1 64 = true := inB_true.2 (by omega)
  have e2 : isDigestB (rootS (xs.take m)) = true := rootS_digest fun x hx => hd x (List.mem_of_mem_take hx)
  have e3 : prfF (consS xs m true) = (0, 0) := prfF_ok (consF_length 64 xs m true) (consF_digest 64 xs m true hd)
  have hF : vcoF (rootS (xs.take m)) (m : Int) (rootS xs) (xs.length : Int) (consS xs m true) = (0, 0) := by
    unfold vcoF
    rw [rootS_digest hd, e1, e2, e3]
    simp [fbF]
    omega
  refine ⟨hF, ?_⟩
  unfold vcoB
  rw [hF]
  simp only [Int.toNat_natCast, decide_true, Bool.true_and]
  rw [← ext_same hn h1 hm]
  exact ext_ok hn h1 hm
end Pl
theorem TranslogExtensionsVerify_bad (xs : List Int) (i : Int) (oa : Option Addr) (cap : Nat) (w : World) (hs : Sl w oa xs.length cap 1 (intVals xs)) (hm : xs.length ≤ 9223372036854775807) (hF : (Pl.msgF xs).1 ≠ 0) : Calls Try.prog 7 #[.slice oa xs.length cap, .int .i64 i] w fun e w' => e = .returned (.bool true) ∧ Below w.heap.size w w' := by
  obtain ⟨F, hE⟩ : ∃ F, Pl.msgF xs = F := ⟨_, rfl⟩
  rw [hE] at hF
  have u1 : (F.1 != 0) = true := by simp [hF]
  clear hF
  replace hE := Lib.hid hE
  go_enter Try.func7, Try.ntmps7
  go_wp2_with fail
  refine (logs_any _).mono ?_
  rintro e w1 ⟨rfl, hb1⟩
  have B1 : Below w.heap.size w w1 := bcall (by go_grown) hb1 (by go_size)
  have s1 := B1.size
  have q1 : w.heap.size ≤ w1.heap.size := by have h := hb1.size; first | omega | (simp at h; omega)
  clear hb1
  go_wp2_with fail
  refine (LeavesFault_any xs oa cap _ (hs.below (by go_grown) (Nat.le_refl _)) hm).mono ?_
  rw [hE.out]
  rintro e w2 ⟨rfl, hb2⟩
  have B2 : Below w.heap.size w w2 := bcall (by go_grown) hb2 (by go_size)
  have s2 := B2.size
  have q2 : w1.heap.size ≤ w2.heap.size := by have h := hb2.size; first | omega | (simp at h; omega)
  clear hb2
  go_wp2_with fail
  go_ret
  exact ⟨ret_true (by simp), by go_grown⟩
theorem TranslogExtensionsVerify_out (xs : List Int) (i : Int) (oa : Option Addr) (cap : Nat) (w : World) (hs : Sl w oa xs.length cap 1 (intVals xs)) (hm : xs.length ≤ 9223372036854775807) (hF : Pl.msgF xs = (0, 0)) (hi : Pl.inB i 1 (xs.length : Int) = false) : Calls Try.prog 7 #[.slice oa xs.length cap, .int .i64 i] w fun e w' => e = .returned (.bool true) ∧ Below w.heap.size w w' := by
  replace hE := Lib.hid hF
  clear hF
  go_enter Try.func7, Try.ntmps7
  go_wp2_with fail
  refine (logs_any _).mono ?_
  rintro e w1 ⟨rfl, hb1⟩
  have B1 : Below w.heap.size w w1 := bcall (by go_grown) hb1 (by go_size)
  have s1 := B1.size
  have q1 : w.heap.size ≤ w1.heap.size := by have h := hb1.size; first | omega | (simp at h; omega)
  clear hb1
  go_wp2_with fail
  refine (LeavesFault_any xs oa cap _ (hs.below (by go_grown) (Nat.le_refl _)) hm).mono ?_
  rw [hE.out]
  rintro e w2 ⟨rfl, hb2⟩
  have B2 : Below w.heap.size w w2 := bcall (by go_grown) hb2 (by go_size)
  have s2 := B2.size
  have q2 : w1.heap.size ≤ w2.heap.size := by have h := hb2.size; first | omega | (simp at h; omega)
  clear hb2
  go_wp2_with (go_at_call 18; refine (lin_any _ _ _ _).mono ?_; rintro e w' ⟨rfl, rfl⟩)
  go_ret
  exact ⟨ret_true (by simp), by go_grown⟩
theorem TranslogExtensionsVerify_in (xs : List Int) (i : Int) (oa : Option Addr) (cap : Nat) (w : World) (hs : Sl w oa xs.length cap 1 (intVals xs)) (hm : xs.length ≤ 9223372036854775807) (hF : Pl.msgF xs = (0, 0)) (hn : xs.length ≤ 64) (hd : ∀ x ∈ xs, Pl.isDigestB x = true) (hi : Pl.inB i 1 (xs.length : Int) = true) : Calls Try.prog 7 #[.slice oa xs.length cap, .int .i64 i] w fun e w' => e = .returned (.bool true) ∧ Below w.heap.size w w' := by
  have hb := Pl.inB_true.1 hi
  obtain ⟨i, rfl⟩ := Int.eq_ofNat_of_zero_le (by omega : 0 ≤ i)
  have hlt : i ≤ xs.length := by omega
  have h1i : 1 ≤ i := by omega
  rcases hs.mem with h0 | ⟨b, off, rfl, hltb, hc⟩
  · have : xs = [] := by simpa [intVals] using h0
    rw [this] at hlt
    simp at hlt
    omega
  have hT := Pl.vcoF_prove hn h1i hlt hd
  have hV : Pl.rootV xs = Pl.rootS xs := by unfold Pl.rootV; rw [hF]; rfl
  have hF2 : Pl.msgF (xs.take i) = (0, 0) := Pl.msgF_ok (by rw [List.length_take]; omega) fun x hx => hd x (List.mem_of_mem_take hx)
  have hV2 : Pl.rootV (xs.take i) = Pl.rootS (xs.take i) := by unfold Pl.rootV; rw [hF2]; rfl
  have hP : Pl.pcoF xs (i : Int) = (0, 0) := by unfold Pl.pcoF; rw [hF, if_pos rfl, if_pos hi]
  have hW : Pl.pcoV xs (i : Int) = Pl.consS xs i true := by unfold Pl.pcoV; rw [hP, if_pos rfl, Int.toNat_natCast]
  have hle : (Pl.consS xs i true).length ≤ 64 := Pl.consF_length 64 xs i true
  have st := hs.take (k := i) hlt
  have lt : (xs.take i).length = i := by rw [List.length_take]; omega
  have rt := fun w h => Root_any (xs.take i) (some ⟨b, off, none⟩) cap w h (by omega)
  rw [lt] at rt st
  rw [hF2, hV2] at rt
  replace rt := Lib.hid rt
  have hcap := hs.hcap
  have hmax := hs.hmax
  unfold maxLen at hmax
  generalize Pl.consS xs i true = p at *
  generalize Pl.rootS (xs.take i) = q at *
  obtain ⟨hT1, hT2⟩ := hT
  replace hF := Lib.hid hF
  replace hT1 := Lib.hid hT1
  replace hT2 := Lib.hid hT2
  replace hV := Lib.hid hV
  replace hP := Lib.hid hP
  replace hW := Lib.hid hW
  have k1 : (i : Int) ≤ (xs.length : Int) := by omega
  have k0 : (0 : Int) ≤ (i : Int) := by omega
  clear hc hd hF2 hV2 lt
  go_enter Try.func7, Try.ntmps7
  go_wp2_with fail
  refine (logs_any _).mono ?_
  rintro e w1 ⟨rfl, hb1⟩
  have B1 : Below w.heap.size w w1 := bcall (by go_grown) hb1 (by go_size)
  have s1 := B1.size
  have q1 : w.heap.size ≤ w1.heap.size := by have h := hb1.size; first | omega | (simp at h; omega)
  clear hb1
  go_wp2_with fail
  refine (LeavesFault_any xs _ cap _ (hs.below (by go_grown) (Nat.le_refl _)) hm).mono ?_
  rw [hF.out]
  rintro e w2 ⟨rfl, hb2⟩
  have B2 : Below w.heap.size w w2 := bcall (by go_grown) hb2 (by go_size)
  have s2 := B2.size
  have q2 : w1.heap.size ≤ w2.heap.size := by have h := hb2.size; first | omega | (simp at h; omega)
  clear hb2
  go_wp2_with (go_at_call 18; refine (lin_any _ _ _ _).mono ?_; rintro e w' ⟨rfl, rfl⟩)
  refine (rt.out _ (st.below (by go_grown) (Nat.le_refl _))).mono ?_
  rintro e w3 ⟨rfl, hb3⟩
  have B3 : Below w.heap.size w w3 := bcall (by go_grown) hb3 (by go_size)
  have s3 := B3.size
  have q3 : w2.heap.size ≤ w3.heap.size := by have h := hb3.size; first | omega | (simp at h; omega)
  clear hb3
  go_wp2_with fail
  refine (Root_any xs _ cap _ (hs.below (by go_grown) (Nat.le_refl _)) hm).mono ?_
  rw [hF.out, hV.out]
  rintro e w4 ⟨rfl, hb4⟩
  have B4 : Below w.heap.size w w4 := bcall (by go_grown) hb4 (by go_size)
  have s4 := B4.size
  have q4 : w3.heap.size + 1 ≤ w4.heap.size := by have h := hb4.size; first | omega | (simp at h; omega)
  obtain ⟨ba0, ba1, baf, bag, bal⟩ := (Box2.new w3 (.int .i64 0) (.int .i64 0) 24).below hb4 (by go_size)
  clear hb4
  go_wp2_with fail
  refine (ProveConsistency_any xs i _ cap _ (hs.below (by go_grown) (Nat.le_refl _)) hm).mono ?_
  rintro e w5 ⟨v2, rfl, own2, hb5⟩
  rw [hP.out]
  rw [hW.out] at own2
  obtain ⟨o2, k2, rfl⟩ := own_slice own2
  have sl2 := Sl.own own2
  clear own2
  have B5 : Below w.heap.size w w5 := bcall (by go_grown) hb5 (by go_size)
  have s5 := B5.size
  have q5 : w4.heap.size + 1 ≤ w5.heap.size := by have h := hb5.size; first | omega | (simp at h; omega)
  obtain ⟨ba0, ba1, baf, bag, bal⟩ := ((Box2.mk ba0 ba1 baf bag bal).alloc (.cells #[(.int .i64 0), (.int .i64 0)] 24)).below hb5 (by go_size)
  obtain ⟨bb0, bb1, bbf, bbg, bbl⟩ := (Box2.new w4 (.int .i64 0) (.int .i64 0) 24).below hb5 (by go_size)
  clear hb5
  go_wp2_with fail
  refine (VerifyConsistency_any q i (Pl.rootS xs) xs.length p o2 k2 _ (sl2.below (by go_grown) (Nat.le_refl _)) (by omega)).mono ?_
  rw [hT1.out, hT2.out]
  rintro e w6 ⟨rfl, hb6⟩
  have B6 : Below w.heap.size w w6 := bcall (by go_grown) hb6 (by go_size)
  have s6 := B6.size
  have q6 : w5.heap.size + 1 ≤ w6.heap.size := by have h := hb6.size; first | omega | (simp at h; omega)
  obtain ⟨ba0, ba1, baf, bag, bal⟩ := ((Box2.mk ba0 ba1 baf bag bal).alloc (.cells #[(.int .i64 0), (.int .i64 0)] 24)).below hb6 (by go_size)
  obtain ⟨bb0, bb1, bbf, bbg, bbl⟩ := ((Box2.mk bb0 bb1 bbf bbg bbl).alloc (.cells #[(.int .i64 0), (.int .i64 0)] 24)).below hb6 (by go_size)
  obtain ⟨bc0, bc1, bcf, bcg, bcl⟩ := (Box2.new w5 (.int .i64 0) (.int .i64 0) 24).below hb6 (by go_size)
  replace sl2 := (sl2.below (by go_grown) (Nat.le_refl _)).below hb6 (Nat.le_refl _)
  clear hb6
  go_wp2_with fail
  go_ret
  exact ⟨ret_true (by simp), by go_grown⟩
theorem TranslogExtensionsVerify_main (i : Int) (xs : List Int) (oa : Option Addr) (cap : Nat) (w : World) (hs : Sl w oa xs.length cap 1 (intVals xs)) (hm : xs.length ≤ 9223372036854775807) : Calls Try.prog 7 #[.slice oa xs.length cap, .int .i64 i] w fun e w' => e = .returned (.bool true) ∧ Below w.heap.size w w' := by
  rcases Pl.logF_cases xs with ⟨hF, hn, hd⟩ | hF
  · cases hi : Pl.inB i 1 (xs.length : Int)
    · exact TranslogExtensionsVerify_out xs i oa cap w hs hm hF hi
    · exact TranslogExtensionsVerify_in xs i oa cap w hs hm hF hn hd hi
  · exact TranslogExtensionsVerify_bad xs i oa cap w hs hm hF
end Go.Proofs.Ytplcbhcbahiheaa
