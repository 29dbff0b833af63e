/- The law TranslogProofsVerify returns true. -/
import Derived.Test.YtplcbhcbahiheaaTr
namespace Go.Proofs.Ytplcbhcbahiheaa
open Go.RowKit

namespace Pl
theorem prfF_ok {p : List Int} (h : p.length ≤ 64) (hd : ∀ x ∈ p, isDigestB x = true) : prfF p = (0, 0) := by
  have hf : p.findIdx? (fun x => !isDigestB x) = none := by
    rw [List.findIdx?_eq_none_iff]
    intro x hx
    simp [hd x hx]
  unfold prfF digF
  rw [if_pos h, hf]
theorem tvF_prove {xs : List Int} {i : Nat} {x : Int} (hn : xs.length ≤ 64) (hi : i < xs.length) (hd : ∀ x ∈ xs, isDigestB x = true) (hx : xs[i]? = some x) : tvF (rootS xs) (xs.length : Int) (i : Int) x (proveS xs i) = (0, 0) ∧ tvB (rootS xs) (xs.length : Int) (i : Int) x (proveS xs i) = true := by
  have h1 : inB (xs.length : Int) 1 64 = true := inB_true.2 (by omega)
  have h2 : isDigestB x = true := hd x (List.mem_of_getElem? hx)
  have h3 : prfF (proveS xs i) = (0, 0) := prfF_ok (Nat.le_trans (prove_length hn hi) (by omega)) (proveF_digest _ xs i hd)
  have hF : tvF (rootS xs) (xs.length : Int) (i : Int) x (proveS xs i) = (0, 0) := by
    unfold tvF
    rw [rootS_digest hd, h1, h2, h3]
    simp [fbF, hi]
  refine ⟨hF, ?_⟩
  unfold tvB
  rw [hF]
  simp only [Int.toNat_natCast, decide_true, Bool.true_and]
  rw [← inc_same hn hi, incS_ok]
  have h := prove_ok xs.length xs i rfl hn hi
  rw [List.getD_eq_getElem?_getD, hx] at h
  exact h
end Pl
theorem TranslogProofsVerify_bad (xs : List Int) (i : Int) (oa : Option Addr) (cap : Nat) (w : World) (hs : Sl w oa xs.length cap 1 (intVals xs)) (hm : xs.length ≤ 9223372036854775807) (hF : (Pl.msgF xs).1 ≠ 0) : Calls Try.prog 6 #[.slice oa xs.length cap, .int .i64 i] w fun e w' => e = .returned (.bool true) ∧ Below w.heap.size w w' := by
  obtain ⟨F, hE⟩ : ∃ F, Pl.msgF xs = F := ⟨_, rfl⟩
  rw [hE] at hF
  have u1 : (F.1 != 0) = true := by simp [hF]
  clear hF
  replace hE := Lib.hid hE
  go_enter Try.func6, Try.ntmps6
  go_wp2_with fail
  refine (logs_any _).mono ?_
  rintro e w1 ⟨rfl, hb1⟩
  have B1 : Below w.heap.size w w1 := bcall (by go_grown) hb1 (by go_size)
  have s1 := B1.size
  have q1 : w.heap.size ≤ w1.heap.size := by have h := hb1.size; first | omega | (simp at h; omega)
  clear hb1
  go_wp2_with fail
  refine (LeavesFault_any xs oa cap _ (hs.below (by go_grown) (Nat.le_refl _)) hm).mono ?_
  rw [hE.out]
  rintro e w2 ⟨rfl, hb2⟩
  have B2 : Below w.heap.size w w2 := bcall (by go_grown) hb2 (by go_size)
  have s2 := B2.size
  have q2 : w1.heap.size ≤ w2.heap.size := by have h := hb2.size; first | omega | (simp at h; omega)
  clear hb2
  go_wp2_with fail
  go_ret
  exact ⟨ret_true (by simp), by go_grown⟩
theorem TranslogProofsVerify_out (xs : List Int) (i : Int) (oa : Option Addr) (cap : Nat) (w : World) (hs : Sl w oa xs.length cap 1 (intVals xs)) (hm : xs.length ≤ 9223372036854775807) (hF : Pl.msgF xs = (0, 0)) (hi : Pl.inB i 0 ((xs.length : Int) - 1) = false) : Calls Try.prog 6 #[.slice oa xs.length cap, .int .i64 i] w fun e w' => e = .returned (.bool true) ∧ Below w.heap.size w w' := by
  replace hE := Lib.hid hF
  clear hF
  go_enter Try.func6, Try.ntmps6
  go_wp2_with fail
  refine (logs_any _).mono ?_
  rintro e w1 ⟨rfl, hb1⟩
  have B1 : Below w.heap.size w w1 := bcall (by go_grown) hb1 (by go_size)
  have s1 := B1.size
  have q1 : w.heap.size ≤ w1.heap.size := by have h := hb1.size; first | omega | (simp at h; omega)
  clear hb1
  go_wp2_with fail
  refine (LeavesFault_any xs oa cap _ (hs.below (by go_grown) (Nat.le_refl _)) hm).mono ?_
  rw [hE.out]
  rintro e w2 ⟨rfl, hb2⟩
  have B2 : Below w.heap.size w w2 := bcall (by go_grown) hb2 (by go_size)
  have s2 := B2.size
  have q2 : w1.heap.size ≤ w2.heap.size := by have h := hb2.size; first | omega | (simp at h; omega)
  clear hb2
  go_wp2_with (go_at_call 18; refine (lin_any _ _ _ _).mono ?_; rintro e w' ⟨rfl, rfl⟩)
  go_ret
  exact ⟨ret_true (by simp), by go_grown⟩
theorem TranslogProofsVerify_in (xs : List Int) (i : Int) (oa : Option Addr) (cap : Nat) (w : World) (hs : Sl w oa xs.length cap 1 (intVals xs)) (hm : xs.length ≤ 9223372036854775807) (hF : Pl.msgF xs = (0, 0)) (hn : xs.length ≤ 64) (hd : ∀ x ∈ xs, Pl.isDigestB x = true) (hi : Pl.inB i 0 ((xs.length : Int) - 1) = true) : Calls Try.prog 6 #[.slice oa xs.length cap, .int .i64 i] w fun e w' => e = .returned (.bool true) ∧ Below w.heap.size w w' := by
  have hb := Pl.inB_true.1 hi
  obtain ⟨i, rfl⟩ := Int.eq_ofNat_of_zero_le hb.1
  have hlt : i < xs.length := by omega
  rcases hs.mem with h0 | ⟨b, off, rfl, hltb, hc⟩
  · have : xs = [] := by simpa [intVals] using h0
    rw [this] at hlt
    simp at hlt
  have hcell := hc i _ (intVals_get xs i hlt)
  have hT := Pl.tvF_prove hn hlt hd (List.getElem?_eq_getElem hlt)
  have hV : Pl.rootV xs = Pl.rootS xs := by unfold Pl.rootV; rw [hF]; rfl
  have hP : Pl.prvF xs (i : Int) = (0, 0) := by unfold Pl.prvF; rw [hF, if_pos rfl, if_pos hi]
  have hW : Pl.prvV xs (i : Int) = Pl.proveS xs i := by unfold Pl.prvV; rw [hP, if_pos rfl, Int.toNat_natCast]
  have hle := Pl.prove_length hn hlt
  generalize Pl.proveS xs i = p at *
  obtain ⟨hT1, hT2⟩ := hT
  generalize xs[i] = x at *
  replace hF := Lib.hid hF
  replace hT1 := Lib.hid hT1
  replace hT2 := Lib.hid hT2
  replace hV := Lib.hid hV
  replace hP := Lib.hid hP
  replace hW := Lib.hid hW
  have hp6 : decide ((p.length : Int) ≤ 6) = true := by simp; omega
  have hilt : (i : Int) < (xs.length : Int) := by omega
  clear hc hd
  go_enter Try.func6, Try.ntmps6
  go_wp2_with fail
  refine (logs_any _).mono ?_
  rintro e w1 ⟨rfl, hb1⟩
  have B1 : Below w.heap.size w w1 := bcall (by go_grown) hb1 (by go_size)
  have s1 := B1.size
  have q1 : w.heap.size ≤ w1.heap.size := by have h := hb1.size; first | omega | (simp at h; omega)
  clear hb1
  go_wp2_with fail
  refine (LeavesFault_any xs _ cap _ (hs.below (by go_grown) (Nat.le_refl _)) hm).mono ?_
  rw [hF.out]
  rintro e w2 ⟨rfl, hb2⟩
  have B2 : Below w.heap.size w w2 := bcall (by go_grown) hb2 (by go_size)
  have s2 := B2.size
  have q2 : w1.heap.size ≤ w2.heap.size := by have h := hb2.size; first | omega | (simp at h; omega)
  clear hb2
  go_wp2_with (go_at_call 18; refine (lin_any _ _ _ _).mono ?_; rintro e w' ⟨rfl, rfl⟩)
  refine (Root_any xs _ cap _ (hs.below (by go_grown) (Nat.le_refl _)) hm).mono ?_
  rw [hF.out, hV.out]
  rintro e w3 ⟨rfl, hb3⟩
  have B3 : Below w.heap.size w w3 := bcall (by go_grown) hb3 (by go_size)
  have s3 := B3.size
  have q3 : w2.heap.size ≤ w3.heap.size := by have h := hb3.size; first | omega | (simp at h; omega)
  clear hb3
  go_wp2_with fail
  refine (Prove_any xs i _ cap _ (hs.below (by go_grown) (Nat.le_refl _)) hm).mono ?_
  rintro e w4 ⟨v2, rfl, own2, hb4⟩
  rw [hP.out]
  rw [hW.out] at own2
  obtain ⟨o2, k2, rfl⟩ := own_slice own2
  have sl2 := Sl.own own2
  clear own2
  have B4 : Below w.heap.size w w4 := bcall (by go_grown) hb4 (by go_size)
  have s4 := B4.size
  have q4 : w3.heap.size + 1 ≤ w4.heap.size := by have h := hb4.size; first | omega | (simp at h; omega)
  obtain ⟨ba0, ba1, baf, bag, bal⟩ := (Box2.new w3 (.int .i64 0) (.int .i64 0) 24).below hb4 (by go_size)
  have hltc : b < w4.heap.size := by omega
  replace hcell : w4.cell? ⟨b, off + i, none⟩ = some (.int .i64 x) := by rw [B4.cell (p := ⟨b, off + i, none⟩) hltb]; exact hcell
  clear hb4
  go_wp2_with fail
  refine (Verify_any (Pl.rootS xs) xs.length i x p o2 k2 _ (sl2.below (by go_grown) (Nat.le_refl _)) (by omega)).mono ?_
  rw [hT1.out, hT2.out]
  rintro e w5 ⟨rfl, hb5⟩
  have B5 : Below w.heap.size w w5 := bcall (by go_grown) hb5 (by go_size)
  have s5 := B5.size
  have q5 : w4.heap.size + 1 ≤ w5.heap.size := by have h := hb5.size; first | omega | (simp at h; omega)
  obtain ⟨ba0, ba1, baf, bag, bal⟩ := ((Box2.mk ba0 ba1 baf bag bal).alloc (.cells #[(.int .i64 0), (.int .i64 0)] 24)).below hb5 (by go_size)
  obtain ⟨bb0, bb1, bbf, bbg, bbl⟩ := (Box2.new w4 (.int .i64 0) (.int .i64 0) 24).below hb5 (by go_size)
  replace sl2 := (sl2.below (by go_grown) (Nat.le_refl _)).below hb5 (Nat.le_refl _)
  clear hb5
  go_wp2_with fail
  go_ret
  exact ⟨ret_true (by simp), by go_grown⟩
theorem TranslogProofsVerify_main (i : Int) (xs : List Int) (oa : Option Addr) (cap : Nat) (w : World) (hs : Sl w oa xs.length cap 1 (intVals xs)) (hm : xs.length ≤ 9223372036854775807) : Calls Try.prog 6 #[.slice oa xs.length cap, .int .i64 i] w fun e w' => e = .returned (.bool true) ∧ Below w.heap.size w w' := by
  rcases Pl.logF_cases xs with ⟨hF, hn, hd⟩ | hF
  · cases hi : Pl.inB i 0 ((xs.length : Int) - 1)
    · exact TranslogProofsVerify_out xs i oa cap w hs hm hF hi
    · exact TranslogProofsVerify_in xs i oa cap w hs hm hF hn hd hi
  · exact TranslogProofsVerify_bad xs i oa cap w hs hm hF
end Go.Proofs.Ytplcbhcbahiheaa
