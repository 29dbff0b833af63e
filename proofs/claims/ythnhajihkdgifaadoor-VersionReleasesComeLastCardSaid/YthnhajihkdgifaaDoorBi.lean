/- Contracts: versions that are the same; versions compared with their faults. -/
import Derived.Test.YthnhajihkdgifaaDoorBh
import Derived.Test.YthnhajihkdgifaaDoorKm
namespace Go.Proofs.YthnhajihkdgifaaDoor
open Go.RowKit

namespace Pl
def sameB (x y : Ver) : Bool := decide (x.maj = y.maj) && decide (x.min = y.min) && decide (x.pat = y.pat) && (x.pre.map bsl == y.pre.map bsl)
theorem map_bsl_inj : ∀ {a b : List ByteArray}, a.map bsl = b.map bsl → a = b
  | [], [], _ => rfl
  | [], _ :: _, h => by simp at h
  | _ :: _, [], h => by simp at h
  | x :: a, y :: b, h => by
    simp only [List.map_cons, List.cons.injEq] at h
    rw [bsl_inj h.1, map_bsl_inj h.2]
theorem sameB_iff {x y : Ver} : sameB x y = true ↔ x = y := by
  unfold sameB
  simp only [Bool.and_eq_true, decide_eq_true_eq, beq_iff_eq]
  constructor
  · rintro ⟨⟨⟨h1, h2⟩, h3⟩, h4⟩
    exact Ver.ext' h1 h2 h3 (map_bsl_inj h4)
  · rintro rfl
    exact ⟨⟨⟨rfl, rfl⟩, rfl⟩, rfl⟩
theorem sameB_false {x y : Ver} (h : x ≠ y) : sameB x y = false := by rw [← Bool.not_eq_true, sameB_iff]; exact h
/-- The first k places are the same. -/
def SameTo (a b : List ByteArray) (k : Nat) : Prop := ∀ j (h1 : j < a.length) (h2 : j < b.length), j < k → a[j] = b[j]
theorem SameTo.zero (a b : List ByteArray) : SameTo a b 0 := fun _ _ _ h => absurd h (by omega)
theorem SameTo.succ {a b : List ByteArray} {k : Nat} (h : SameTo a b k) (h1 : k < a.length) (h2 : k < b.length) (e : a[k] = b[k]) : SameTo a b (k + 1) := fun j j1 j2 hj => by
  by_cases hk : j = k
  · subst hk; exact e
  · exact h j j1 j2 (by omega)
theorem SameTo.all {a b : List ByteArray} {k : Nat} (h : SameTo a b k) (h1 : a.length ≤ k) (h2 : a.length = b.length) : a = b := List.ext_getElem h2 fun j j1 j2 => h j j1 j2 (by omega)
theorem toList_eq {s t : ByteArray} : s.toList = t.toList ↔ s = t := by
  rw [ba_toList, ba_toList]
  exact ⟨fun h => bsl_inj h, fun h => by rw [h]⟩
end Pl

set_option maxRecDepth 100000 in
set_option maxHeartbeats 2000000 in
theorem SameVersion_any (x y : Pl.Ver) (a b : Option Addr) (c d : Nat) (w : World) (hx : VIn w x a c) (hy : VIn w y b d) :
    Calls Tryd.prog 17 #[verV x a c, verV y b d] w fun e w' => e = .returned (.bool (Pl.sameB x y)) ∧ Below w.heap.size w w' := by
  have lx := hx.len
  have ly := hy.len
  have HX := Lib.hid hx
  have HY := Lib.hid hy
  clear hx hy
  by_cases h1 : x.maj = y.maj
  · by_cases h2 : x.min = y.min
    · by_cases h3 : x.pat = y.pat
      · by_cases h4 : x.pre.length = y.pre.length
        · have u1 := bneF h1
          have u2 := bneF h2
          have u3 := bneF h3
          have u4 := bneF (show (x.pre.length : Int) = (y.pre.length : Int) by omega)
          have EY := Lib.hid (fun h : x.pre = y.pre => Pl.sameB_iff.2 (Pl.Ver.ext' h1 h2 h3 h))
          have EN := Lib.hid (fun h : x.pre ≠ y.pre => Pl.sameB_false (x := x) (y := y) (fun e => h (congrArg Pl.Ver.pre e)))
          have H4 := Lib.hid h4
          clear h1 h2 h3 h4
          by_cases p1 : x.pre.length = 0
          · have E := Lib.hid (EY.out (by rw [List.length_eq_zero_iff.1 p1, List.length_eq_zero_iff.1 (H4.out.symm.trans p1)]))
            have p2 : x.pre.length < 1 := by omega
            clear p1
            go_enter Tryd.func17, Tryd.ntmps17
            go_wp2_with fail
            go_rounds 1
            go_ret
            exact ⟨ret_bool E.out.symm, by go_grown⟩
          · obtain ⟨ba, offa, rfl, hla, hca⟩ := HX.out.sl.strAt (by omega)
            obtain ⟨bb, offb, rfl, hlb, hcb⟩ := HY.out.sl.strAt (by have := H4.out; omega)
            have HCA := Lib.hid hca
            have HCB := Lib.hid hcb
            clear p1 hca hcb
            go_enter Tryd.func17, Tryd.ntmps17
            go_wp2_with fail
            go_loopw [5] (fun i wr => ∃ k : Nat, k ≤ x.pre.length ∧ i = .int .i64 k ∧ Hid (Pl.SameTo x.pre y.pre k) ∧ ∃ q, wr = ((w.alloc (.cells #[.int .i64 x.maj, .int .i64 x.min, .int .i64 x.pat, .slice (some ⟨ba, offa, none⟩) x.pre.length c] 24)).alloc (.cells #[.int .i64 y.maj, .int .i64 y.min, .int .i64 y.pat, .slice (some ⟨bb, offb, none⟩) y.pre.length d] 24)).drewN q) (fun i _ => x.pre.length - (intOf i).toNat)
            case atStart => exact ⟨0, Nat.zero_le _, rfl, Pl.SameTo.zero _ _, 0, rfl⟩
            case round =>
              obtain ⟨k, hk, rfl, hu, q, rfl⟩ := hrel
              by_cases hlt : k < x.pre.length
              · have hlt2 : k < y.pre.length := by have := H4.out; omega
                have c1 := HCA.out k hlt
                have c2 := HCB.out k hlt2
                have st := Lib.hid (fun h => hu.out.succ hlt hlt2 h)
                have en := Lib.hid (show x.pre[k] ≠ y.pre[k] → x.pre ≠ y.pre from fun h e => h (by congr 1))
                generalize x.pre[k] = X at *
                generalize y.pre[k] = Y at *
                by_cases hz : X = Y
                · have v1 : (X.toList == Y.toList) = true := by rw [hz]; simp
                  have v2 : (X.toList != Y.toList) = false := by rw [hz]; simp
                  have st := Lib.hid (st.out hz)
                  clear en hz
                  go_wp2_with fail
                  go_quiet (fail)
                  go_wp2_with fail
                  go_roundw
                  case rel => exact ⟨k + 1, hlt, by go_num, st, _, by first | rfl | rw [World.drewN_drewN]⟩
                  case measure => simp [intOf]; omega
                · have v1 : (X.toList == Y.toList) = false := by simpa [Pl.toList_eq] using hz
                  have v2 : (X.toList != Y.toList) = true := by simpa [Pl.toList_eq] using hz
                  have E := Lib.hid (EN.out (en.out hz))
                  clear st hz
                  go_wp2_with fail
                  go_quiet (fail)
                  go_wp2_with fail
                  go_ret
                  exact ⟨ret_bool E.out.symm, below_drewN' (below_drewN' (by go_grown) _) _⟩
              · have E := Lib.hid (EY.out (hu.out.all (by omega) H4.out))
                go_wp2_with fail
                go_ret
                exact ⟨ret_bool E.out.symm, below_drewN' (by go_grown) _⟩
        · have u1 := bneF h1
          have u2 := bneF h2
          have u3 := bneF h3
          have u4 := bneT (show (x.pre.length : Int) ≠ (y.pre.length : Int) by omega)
          have E := Lib.hid (Pl.sameB_false (x := x) (y := y) (fun e => h4 (by rw [e])))
          clear h1 h2 h3 h4
          go_enter Tryd.func17, Tryd.ntmps17
          go_wp2_with fail
          go_ret
          exact ⟨ret_bool E.out.symm, by go_grown⟩
      · have u1 := bneF h1
        have u2 := bneF h2
        have u3 := bneT h3
        have E := Lib.hid (Pl.sameB_false (x := x) (y := y) (fun e => h3 (by rw [e])))
        clear h1 h2 h3
        go_enter Tryd.func17, Tryd.ntmps17
        go_wp2_with fail
        go_ret
        exact ⟨ret_bool E.out.symm, by go_grown⟩
    · have u1 := bneF h1
      have u2 := bneT h2
      have E := Lib.hid (Pl.sameB_false (x := x) (y := y) (fun e => h2 (by rw [e])))
      clear h1 h2
      go_enter Tryd.func17, Tryd.ntmps17
      go_wp2_with fail
      go_ret
      exact ⟨ret_bool E.out.symm, by go_grown⟩
  · have u1 := bneT h1
    have E := Lib.hid (Pl.sameB_false (x := x) (y := y) (fun e => h1 (by rw [e])))
    clear h1
    go_enter Tryd.func17, Tryd.ntmps17
    go_wp2_with fail
    go_ret
    exact ⟨ret_bool E.out.symm, by go_grown⟩
/-- The fault of a comparison. -/
def Pl.cmpF (x y : Pl.Ver) : Int × Int := if (Pl.vrF x).1 ≠ 0 then Pl.vrF x else if (Pl.vrF y).1 ≠ 0 then ((Pl.vrF y).1, -2) else (0, 0)
/-- The result of a comparison. -/
def Pl.cmpV (x y : Pl.Ver) : Int := if (Pl.cmpF x y).1 ≠ 0 then 0 else Pl.verCmp x y
theorem VOk.of {w : World} {v : Pl.Ver} {a : Option Addr} {c : Nat} (h : VIn w v a c) (hv : v.Ok) : VOk w v a c := ⟨h, hv.i, hv.n⟩

set_option maxHeartbeats 1000000 in
theorem verCompare_any (x y : Pl.Ver) (a b : Option Addr) (c d : Nat) (w : World) (hx : VIn w x a c) (hy : VIn w y b d) :
    Calls Tryd.prog 13 #[verV x a c, verV y b d] w fun e w' => e = .returned (.tuple #[.int .i64 (Pl.cmpV x y), fltV (Pl.cmpF x y)]) ∧ Below w.heap.size w w' := by
  have HX := Lib.hid hx
  have HY := Lib.hid hy
  clear hx hy
  rcases Pl.vrF_cases x with ⟨fx, okx⟩ | fx
  · have FX := Lib.hid fx
    have OX := Lib.hid okx
    clear okx
    rcases Pl.vrF_cases y with ⟨fy, oky⟩ | fy
    · have E : Pl.cmpF x y = (0, 0) := by unfold Pl.cmpF; rw [if_neg (by rw [fx]; decide), if_neg (by rw [fy]; decide)]
      have E2 : Pl.cmpV x y = Pl.verCmp x y := by unfold Pl.cmpV; rw [E, if_neg (by decide)]
      rw [E, E2]
      have FY := Lib.hid fy
      have OY := Lib.hid oky
      clear E E2 fx fy oky
      go_enter Tryd.func13, Tryd.ntmps13
      go_wp2_with fail
      refine (Validate_any x a c _ (HX.out.below (by go_grown) (Nat.le_refl _))).mono ?_
      rw [FX.out]
      rintro e w1 ⟨rfl, hb1⟩
      have B1 : Below w.heap.size w w1 := bcall (by go_grown) hb1 (by go_size)
      have q1 : w.heap.size + 3 ≤ w1.heap.size := by have h := hb1.size; simp at h; omega
      obtain ⟨hc1, hf1⟩ := bcell hb1
      simp only [World.size_alloc] at hc1 hf1
      have z0 : w.heap.size < w1.heap.size := by omega
      have z1 : w.heap.size + 1 < w1.heap.size := by omega
      have z2 : w.heap.size + 1 + 1 < w1.heap.size := by omega
      have rx : Box2 w1 (w.heap.size + 1 + 1) (.int .i64 0) (.int .i64 0) := (Box2.newAt (by simp)).below hb1 (by simp)
      clear hb1
      go_wp2_with fail
      refine (Validate_any y b d _ (HY.out.below (B1.alloc (by omega) _) (Nat.le_refl _))).mono ?_
      rw [FY.out]
      rintro e w2 ⟨rfl, hb2⟩
      have B2 : Below w.heap.size w w2 := bcall (B1.alloc (by omega) _) hb2 (by go_size)
      have q2 : w1.heap.size + 1 ≤ w2.heap.size := by have h := hb2.size; simp at h; omega
      have rx2 : Box2 w2 (w.heap.size + 1 + 1) (.int .i64 0) (.int .i64 0) := (rx.alloc _).below hb2 (by simp; omega)
      obtain ⟨hc2, hf2⟩ := bcell hb2
      simp only [World.size_alloc] at hc2 hf2
      have y0 : w.heap.size < w2.heap.size := by omega
      have y1 : w.heap.size + 1 < w2.heap.size := by omega
      have y2 : w.heap.size + 1 + 1 < w2.heap.size := by omega
      have x0 : w.heap.size < w1.heap.size + 1 := by omega
      have x1 : w.heap.size + 1 < w1.heap.size + 1 := by omega
      have x2 : w.heap.size + 1 + 1 < w1.heap.size + 1 := by omega
      clear hb2 rx
      go_wp2_with fail
      refine (Order_any x y a b c d _ ((VOk.of HX.out OX.out).below (B2.alloc (by omega) _) (Nat.le_refl _)) ((VOk.of HY.out OY.out).below (B2.alloc (by omega) _) (Nat.le_refl _))).mono ?_
      rintro e w3 ⟨rfl, hb3⟩
      have B3 : Below w.heap.size w w3 := bcall (B2.alloc (by omega) _) hb3 (by simp; omega)
      have rx3 : Box2 w3 (w.heap.size + 1 + 1) (.int .i64 0) (.int .i64 0) := (rx2.alloc _).below hb3 (by simp; omega)
      have y3 : w.heap.size + 1 + 1 < w3.heap.size := rx3.lt
      obtain ⟨C0, C1, D0, D1, -⟩ := rx3
      clear hb3 rx2 hc1 hc2 hf1 hf2
      go_wp2_with fail
      obtain ⟨R0, R1, -, -, -⟩ := (Box2.mk C0 C1 D0 D1 y3).set (.int .i64 0) (.int .i64 0)
      exact bodyPost_ret (v := .tuple #[.int .i64 (Pl.verCmp x y), .agg #[.int .i64 0, .int .i64 0]]) (by simp [results, Tryd.results13, go_sem, R0, R1]) rfl ⟨rfl, by go_grown⟩
    · have E : Pl.cmpF x y = ((Pl.vrF y).1, -2) := by unfold Pl.cmpF; rw [if_neg (by rw [fx]; decide), if_pos fy]
      have E2 : Pl.cmpV x y = 0 := by unfold Pl.cmpV; rw [E, if_pos fy]
      rw [E, E2]
      clear E E2 fx
      obtain ⟨F, hF⟩ : ∃ F, Pl.vrF y = F := ⟨_, rfl⟩
      have HF := Lib.hid hF
      rw [hF] at fy ⊢
      obtain ⟨f1, f2⟩ := F
      have u1 := bneT fy
      have u2 := beqF fy
      clear fy hF
      go_enter Tryd.func13, Tryd.ntmps13
      go_wp2_with fail
      refine (Validate_any x a c _ (HX.out.below (by go_grown) (Nat.le_refl _))).mono ?_
      rw [FX.out]
      rintro e w1 ⟨rfl, hb1⟩
      have B1 : Below w.heap.size w w1 := bcall (by go_grown) hb1 (by go_size)
      have q1 : w.heap.size + 3 ≤ w1.heap.size := by have h := hb1.size; simp at h; omega
      obtain ⟨hc1, hf1⟩ := bcell hb1
      simp only [World.size_alloc] at hc1 hf1
      have z0 : w.heap.size < w1.heap.size := by omega
      have z1 : w.heap.size + 1 < w1.heap.size := by omega
      have z2 : w.heap.size + 1 + 1 < w1.heap.size := by omega
      have rx : Box2 w1 (w.heap.size + 1 + 1) (.int .i64 0) (.int .i64 0) := (Box2.newAt (by simp)).below hb1 (by simp)
      clear hb1
      go_wp2_with fail
      refine (Validate_any y b d _ (HY.out.below (B1.alloc (by omega) _) (Nat.le_refl _))).mono ?_
      rw [HF.out]
      rintro e w2 ⟨rfl, hb2⟩
      have B2 : Below w.heap.size w w2 := bcall (B1.alloc (by omega) _) hb2 (by go_size)
      have rx2 : Box2 w2 (w.heap.size + 1 + 1) (.int .i64 0) (.int .i64 0) := (rx.alloc _).below hb2 (by simp; omega)
      have y2 : w.heap.size + 1 + 1 < w2.heap.size := rx2.lt
      obtain ⟨C0, C1, D0, D1, -⟩ := rx2
      clear hb2 rx hc1 hf1
      go_wp2_with fail
      go_region
      go_wp2_with fail
      obtain ⟨R0, R1, -, -, -⟩ := (Box2.mk C0 C1 D0 D1 y2).set (.int .i64 f1) (.int .i64 (-2))
      exact bodyPost_ret (v := .tuple #[.int .i64 0, .agg #[.int .i64 f1, .int .i64 (-2)]]) (by simp [results, Tryd.results13, go_sem, R0, R1, y2]) rfl ⟨rfl, by go_grown⟩
  · have E : Pl.cmpF x y = Pl.vrF x := by unfold Pl.cmpF; rw [if_pos fx]
    have E2 : Pl.cmpV x y = 0 := by unfold Pl.cmpV; rw [E, if_pos fx]
    rw [E, E2]
    clear E E2
    obtain ⟨F, hF⟩ : ∃ F, Pl.vrF x = F := ⟨_, rfl⟩
    have HF := Lib.hid hF
    rw [hF] at fx ⊢
    obtain ⟨f1, f2⟩ := F
    have u1 := bneT fx
    have u2 := beqF fx
    clear fx hF
    go_enter Tryd.func13, Tryd.ntmps13
    go_wp2_with fail
    refine (Validate_any x a c _ (HX.out.below (by go_grown) (Nat.le_refl _))).mono ?_
    rw [HF.out]
    rintro e w1 ⟨rfl, hb1⟩
    have B1 : Below w.heap.size w w1 := bcall (by go_grown) hb1 (by go_size)
    have q1 : w.heap.size + 3 ≤ w1.heap.size := by have h := hb1.size; simp at h; omega
    obtain ⟨hc1, hf1⟩ := bcell hb1
    simp only [World.size_alloc] at hc1 hf1
    have z0 : w.heap.size < w1.heap.size := by omega
    have z1 : w.heap.size + 1 < w1.heap.size := by omega
    have z2 : w.heap.size + 1 + 1 < w1.heap.size := by omega
    have rx : Box2 w1 (w.heap.size + 1 + 1) (.int .i64 0) (.int .i64 0) := (Box2.newAt (by simp)).below hb1 (by simp)
    clear hb1
    go_wp2_with fail
    go_region
    go_wp2_with fail
    obtain ⟨R0, R1, -, -, -⟩ := rx.set (.int .i64 f1) (.int .i64 f2)
    exact bodyPost_ret (v := .tuple #[.int .i64 0, .agg #[.int .i64 f1, .int .i64 f2]]) (by simp [results, Tryd.results13, go_sem, R0, R1, z2]) rfl ⟨rfl, by go_grown⟩
end Go.Proofs.YthnhajihkdgifaaDoor
