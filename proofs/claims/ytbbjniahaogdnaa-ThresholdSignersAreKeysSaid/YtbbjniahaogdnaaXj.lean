/- The law ThresholdIsMonotone returns true. -/
import Derived.Test.YtbbjniahaogdnaaXi
import Derived.Test.YtbbjniahaogdnaaPc
namespace Go.Proofs.Ytbbjniahaogdnaa
open Go.RowKit

theorem ThresholdIsMonotone_main (need less : Int) (xs : List Int) (l : List UInt8) (sa sb : List (Int × Int)) (oa ob oc od : Option Addr) (ca cb cc cd : Nat) (w : World) (hs : Sl w oa xs.length ca 1 (intVals xs)) (hm : xs.length ≤ 9223372036854775807)
    (hb : Sl w ob l.length cb 1 (byteVals l)) (hm2 : l.length ≤ 9223372036854775807) (hg : Sl w oc sa.length cc 2 (pairVals sa)) (hm3 : sa.length ≤ 9223372036854775807) (hh : Sl w od sb.length cd 2 (pairVals sb)) (hm4 : sb.length ≤ 9223372036854775807) :
    Calls Try.prog 9 #[.slice oa xs.length ca, .int .i64 need, .int .i64 less, .slice ob l.length cb, .slice oc sa.length cc, .slice od sb.length cd] w fun e w' => e = .returned (.bool true) ∧ Below w.heap.size w w' := by
  by_cases hn : sa.length ≤ 24 ∧ sb.length ≤ 24
  · obtain ⟨hn1, hn2⟩ := hn
    have P1 := fun h1 h2 => Pl.acc_more (xs := xs) (need := need) (l := l) (a := sa) (b := sb) h1 h2
    have P2 := fun h1 h2 h3 => Pl.acc_less (xs := xs) (need := need) (less := less) (l := l) (a := sa) h1 h2 h3
    have P0 : Pl.accB xs need l sa = true → (Pl.accF xs need l.length sa).1 = 0 := fun h => (Pl.accB_true.1 h).1
    have hSl : (sa ++ sb).length ≤ 48 := by simp; omega
    generalize hSe : sa ++ sb = S at *
    replace hSe := Lib.hid hSe
    generalize hA : Pl.accB xs need l sa = A at *
    generalize hF : Pl.accF xs need l.length sa = F at *
    generalize hA2 : Pl.accB xs need l S = A2 at *
    generalize hF2 : Pl.accF xs need l.length S = F2 at *
    generalize hA3 : Pl.accB xs less l sa = A3 at *
    generalize hF3 : Pl.accF xs less l.length sa = F3 at *
    replace P0 := Lib.hid P0
    replace P1 := Lib.hid P1
    replace P2 := Lib.hid P2
    replace hA := Lib.hid hA
    replace hF := Lib.hid hF
    replace hA2 := Lib.hid hA2
    replace hF2 := Lib.hid hF2
    replace hA3 := Lib.hid hA3
    replace hF3 := Lib.hid hF3
    go_enter Try.func9, Try.ntmps9
    go_wp2_with fail
    refine (accepts_any _).mono ?_
    rintro e w1 ⟨rfl, hb1⟩
    have B1 : Below w.heap.size w w1 := bcall (by go_grown) hb1 (by go_size)
    have s1 := B1.size
    have q1 : w.heap.size ≤ w1.heap.size := by have h := hb1.size; first | omega | (simp at h; omega)
    clear hb1
    go_wp2_with (first | (at_builtin; refine ap (by rfl) (by rfl) Try.tSigs B2 (by rfl) hown2 (m := sb.length) (Src.ofSl Try.tSigs.ht (hh.below B2 (Nat.le_refl _)) (by decide) (oneCell_pairs _)) (by omega) s2 ?_; intro v3 w3 hown3 B3 h3; have s3 := B3.size; have q3 : w2.heap.size ≤ w3.heap.size := h3; clear h3) | (at_builtin; refine ap (by rfl) (by rfl) Try.tSigs B1 (by rfl) (World.ownsRow_nil _ _ _ _) (m := sa.length) (Src.ofSl Try.tSigs.ht (hg.below B1 (Nat.le_refl _)) (by decide) (oneCell_pairs _)) (by omega) s1 ?_; intro v2 w2 hown2 B2 h2; have s2 := B2.size; have q2 : w1.heap.size ≤ w2.heap.size := h2; clear h2))
    simp only [Nat.zero_add, List.nil_append, ← pairVals_append, ← List.length_append, hSe.out] at hown3
    obtain ⟨o3, c3, hv3⟩ := own_slice hown3
    subst hv3
    have sl3 := Sl.own hown3
    clear hown2 hown3
    refine (Accept_any xs need l sa oa ob oc ca cb cc _ (hs.below (by go_grown) (Nat.le_refl _)) hm (hb.below (by go_grown) (Nat.le_refl _)) hm2 (hg.below (by go_grown) (Nat.le_refl _)) hm3).mono ?_
    rw [hA.out, hF.out]
    rintro e w4 ⟨rfl, hb4⟩
    have B4 : Below w.heap.size w w4 := bcall (by go_grown) hb4 (by go_size)
    have s4 := B4.size
    have q4 : w3.heap.size ≤ w4.heap.size := by have h := hb4.size; first | omega | (simp at h; omega)
    replace sl3 := sl3.below hb4 (Nat.le_refl _)
    clear hb4
    go_wp2_with fail
    refine (Accept_any xs need l S oa ob o3 ca cb c3 _ (hs.below (by go_grown) (Nat.le_refl _)) hm (hb.below (by go_grown) (Nat.le_refl _)) hm2 (sl3.below (by go_grown) (Nat.le_refl _)) (by omega)).mono ?_
    rw [hA2.out, hF2.out]
    rintro e w5 ⟨rfl, hb5⟩
    have B5 : Below w.heap.size w w5 := bcall (by go_grown) hb5 (by go_size)
    have s5 := B5.size
    have q5 : w4.heap.size + 1 ≤ w5.heap.size := by have h := hb5.size; first | omega | (simp at h; omega)
    obtain ⟨f0, f1, ff, fg, fl⟩ := (Box2.new w4 (.int .i64 F.1) (.int .i64 F.2) 26).below hb5 (by go_size)
    replace sl3 := (sl3.below (by go_grown) (Nat.le_refl _)).below hb5 (Nat.le_refl _)
    clear hb5
    go_wp2_with fail
    refine (Accept_any xs less l sa oa ob oc ca cb cc _ (hs.below (by go_grown) (Nat.le_refl _)) hm (hb.below (by go_grown) (Nat.le_refl _)) hm2 (hg.below (by go_grown) (Nat.le_refl _)) hm3).mono ?_
    rw [hA3.out, hF3.out]
    rintro e w6 ⟨rfl, hb6⟩
    have B6 : Below w.heap.size w w6 := bcall (by go_grown) hb6 (by go_size)
    have s6 := B6.size
    have q6 : w5.heap.size + 1 ≤ w6.heap.size := by have h := hb6.size; first | omega | (simp at h; omega)
    obtain ⟨f0, f1, ff, fg, fl⟩ := ((Box2.mk f0 f1 ff fg fl).alloc (.cells #[(.int .i64 F2.1), (.int .i64 F2.2)] 26)).below hb6 (by go_size)
    obtain ⟨g0, g1, gf, gg, gl⟩ := (Box2.new w5 (.int .i64 F2.1) (.int .i64 F2.2) 26).below hb6 (by go_size)
    replace sl3 := (sl3.below (by go_grown) (Nat.le_refl _)).below hb6 (Nat.le_refl _)
    clear hb6
    go_wp2_with fail
    all_goals first
      | (refine (lin_any _ _ _ _).mono ?_; rintro e w' ⟨rfl, rfl⟩; go_wp2_with fail)
      | skip
    all_goals (go_ret; refine ⟨ret_true (by have p0 := P0.out; have p1 := P1.out; have p2 := P2.out; clear P0 P1 P2 hs hb hg hh; simp_all [Pl.inB_true]), by go_grown⟩)
  · by_cases h1 : sa.length ≤ 24
    · have h2 : ¬ sb.length ≤ 24 := fun h => hn ⟨h1, h⟩
      clear hn
      have e1 : decide ((sa.length : Int) > 24) = false := by simp; omega
      have e2 : decide ((sb.length : Int) > 24) = true := by simp; omega
      go_enter Try.func9, Try.ntmps9
      go_wp2_with fail
      refine (accepts_any _).mono ?_
      rintro e w1 ⟨rfl, hb1⟩
      have B1 : Below w.heap.size w w1 := bcall (by go_grown) hb1 (by go_size)
      have s1 := B1.size
      have q1 : w.heap.size ≤ w1.heap.size := by have h := hb1.size; first | omega | (simp at h; omega)
      clear hb1
      go_wp2_with fail
      go_ret
      exact ⟨ret_true (by simp), by go_grown⟩
    · clear hn
      have e1 : decide ((sa.length : Int) > 24) = true := by simp; omega
      go_enter Try.func9, Try.ntmps9
      go_wp2_with fail
      refine (accepts_any _).mono ?_
      rintro e w1 ⟨rfl, hb1⟩
      have B1 : Below w.heap.size w w1 := bcall (by go_grown) hb1 (by go_size)
      have s1 := B1.size
      have q1 : w.heap.size ≤ w1.heap.size := by have h := hb1.size; first | omega | (simp at h; omega)
      clear hb1
      go_wp2_with fail
      go_ret
      exact ⟨ret_true (by simp), by go_grown⟩
end Go.Proofs.Ytbbjniahaogdnaa
