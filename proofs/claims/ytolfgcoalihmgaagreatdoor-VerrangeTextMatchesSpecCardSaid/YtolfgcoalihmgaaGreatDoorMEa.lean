/- Texts joined. -/
import Derived.Test.YtolfgcoalihmgaaGreatDoorEv
import Derived.Test.YtolfgcoalihmgaaGreatDoorMKv
namespace Go.Proofs.YtolfgcoalihmgaaGreatDoor
section
open Go.RowKit
theorem str_self (S : ByteArray) : (S.toList == S.toList) = true ∧ (S.toList != S.toList) = false := ⟨by simp, by simp⟩
namespace Pl
end Pl
end
section
open Go.RowKit
def Pl.touchB (x y : Pl.Ivl) : Bool := x.un || decide (Pl.verCmp y.lo x.hi ≤ 0)
set_option maxHeartbeats 2000000 in
theorem touching_true (lo hi ly hy : Pl.Ver) (uy : Bool) (a b a2 b2 : Option Addr) (c d c2 d2 : Nat) (w : World) (h1 : VIn w lo a c) (h2 : VIn w hi b d) (h3 : VIn w ly a2 c2) (h4 : VIn w hy b2 d2) (_ : hi.Ok) (_ : ly.Ok) (_ : hy.Ok) :
 Calls Tryz.prog 117 #[ivV ⟨lo, hi, true⟩ a b c d, ivV ⟨ly, hy, uy⟩ a2 b2 c2 d2] w fun e w' => e = .returned (.bool (Pl.touchB ⟨lo, hi, true⟩ ⟨ly, hy, uy⟩)) ∧ Below w.heap.size w w' := by
 have H := Hd h1
 have K := Hd h2
 have L := Hd h3
 have M := Hd h4
 have E : Hid (true = Pl.touchB ⟨lo, hi, true⟩ ⟨ly, hy, uy⟩) := Hd rfl
 clear h1 h2 h3 h4
 go_enter Tryz.func117, Tryz.ntmps117
 have B0 := brl w
 go_wp2_with fail
 go_ret
 exact ⟨ret_bool (by rw [← E.out]), by go_grown⟩
set_option maxHeartbeats 2000000 in
theorem touching_false (lo hi ly hy : Pl.Ver) (uy : Bool) (a b a2 b2 : Option Addr) (c d c2 d2 : Nat) (w : World) (h1 : VIn w lo a c) (h2 : VIn w hi b d) (h3 : VIn w ly a2 c2) (h4 : VIn w hy b2 d2) (o2 : hi.Ok) (o3 : ly.Ok) (_ : hy.Ok) :
 Calls Tryz.prog 117 #[ivV ⟨lo, hi, false⟩ a b c d, ivV ⟨ly, hy, uy⟩ a2 b2 c2 d2] w fun e w' => e = .returned (.bool (Pl.touchB ⟨lo, hi, false⟩ ⟨ly, hy, uy⟩)) ∧ Below w.heap.size w w' := by
 have H := Hd h1
 have K := Hd h2
 have L := Hd h3
 have M := Hd h4
 obtain ⟨k, hk⟩ : ∃ k, Pl.verCmp ly hi = k := ⟨_, rfl⟩
 have E : Hid (decide (k ≤ 0) = Pl.touchB ⟨lo, hi, false⟩ ⟨ly, hy, uy⟩) := Hd (by subst hk; rfl)
 have C1 := Hd (fun (W : World) (g1 : VIn W ly a2 c2) (g2 : VIn W hi b d) => VersionOrder_any ly hi a2 b c2 d W (VOk.of g1 o3) (VOk.of g2 o2))
 rw [hk] at C1
 clear h1 h2 h3 h4 o2 o3 hk
 go_enter Tryz.func117, Tryz.ntmps117
 have B0 := brl w
 go_wp2_with fail
 refine (C1.out _ (L.out.bl (by go_grown)) (K.out.bl (by go_grown))).mono ?_
 rintro e w1 ⟨rfl, hb⟩
 have B1 := bcm w hb
 have q1 : w.heap.size + 2 ≤ w1.heap.size := qle hb
 replace H := Hd (((H.out.al _).al _).bl hb)
 replace K := Hd (((K.out.al _).al _).bl hb)
 replace L := Hd (((L.out.al _).al _).bl hb)
 replace M := Hd (((M.out.al _).al _).bl hb)
 have X := (((bkn w.heap.size [.int .i64 lo.maj, .int .i64 lo.min, .int .i64 lo.pat, .slice a lo.pre.length c, .int .i64 hi.maj, .int .i64 hi.min, .int .i64 hi.pat, .slice b hi.pre.length d, .bool false] 101).alloc _)).bw hb
 have Y := ((bkn (w.heap.size + 1) [.int .i64 ly.maj, .int .i64 ly.min, .int .i64 ly.pat, .slice a2 ly.pre.length c2, .int .i64 hy.maj, .int .i64 hy.min, .int .i64 hy.pat, .slice b2 hy.pre.length d2, .bool uy] 101)).bw hb
 clear hb
 have s1 := B1.size
 have ⟨Xc, Xf, Xl⟩ := X
 have ⟨Yc, Yf, Yl⟩ := Y
 go_wp2_with fail
 go_ret
 exact ⟨ret_bool (by rw [← E.out]), by go_grown⟩
theorem touching_any (x y : Pl.Ivl) (a b a2 b2 : Option Addr) (c d c2 d2 : Nat) (w : World) (h1 : VIn w x.lo a c) (h2 : VIn w x.hi b d) (h3 : VIn w y.lo a2 c2) (h4 : VIn w y.hi b2 d2) (ox : x.Ok) (oy : y.Ok) :
 Calls Tryz.prog 117 #[ivV x a b c d, ivV y a2 b2 c2 d2] w fun e w' => e = .returned (.bool (Pl.touchB x y)) ∧ Below w.heap.size w w' := by
 have o2 := ox.hi
 have o3 := oy.lo
 have o4 := oy.hi
 obtain ⟨lo, hi, un⟩ := x
 obtain ⟨ly, hy, uy⟩ := y
 cases un with
 | true => exact touching_true lo hi ly hy uy a b a2 b2 c d c2 d2 w h1 h2 h3 h4 o2 o3 o4
 | false => exact touching_false lo hi ly hy uy a b a2 b2 c d c2 d2 w h1 h2 h3 h4 o2 o3 o4
set_option maxHeartbeats 2000000 in
theorem joined_a (lo hi ly hy : Pl.Ver) (uy : Bool) (a b a2 b2 : Option Addr) (c d c2 d2 : Nat) (w : World) (h1 : VIn w lo a c) (h2 : VIn w hi b d) (h3 : VIn w ly a2 c2) (h4 : VIn w hy b2 d2) (_ : hi.Ok) (_ : ly.Ok) (_ : hy.Ok) :
 Calls Tryz.prog 118 #[ivV ⟨lo, hi, true⟩ a b c d, ivV ⟨ly, hy, uy⟩ a2 b2 c2 d2] w fun e w' => e = .returned (ivV ⟨lo, hi, true⟩ a b c d) ∧ Below w.heap.size w w' := by
 have H := Hd h1
 have K := Hd h2
 have L := Hd h3
 have M := Hd h4
 clear h1 h2 h3 h4
 go_enter Tryz.func118, Tryz.ntmps118
 have B0 := brl w
 go_wp2_with fail
 refine bodyPost_ret (v := .agg #[.int .i64 lo.maj, .int .i64 lo.min, .int .i64 lo.pat, .slice a lo.pre.length c, .int .i64 hi.maj, .int .i64 hi.min, .int .i64 hi.pat, .slice b hi.pre.length d, .bool true]) (by simp [results, Tryz.results118, go_sem]) rfl ⟨rfl, by go_grown⟩
set_option maxHeartbeats 2000000 in
theorem joined_b (lo hi ly hy : Pl.Ver) (a b a2 b2 : Option Addr) (c d c2 d2 : Nat) (w : World) (h1 : VIn w lo a c) (h2 : VIn w hi b d) (h3 : VIn w ly a2 c2) (h4 : VIn w hy b2 d2) (_ : hi.Ok) (_ : ly.Ok) (_ : hy.Ok) :
 Calls Tryz.prog 118 #[ivV ⟨lo, hi, false⟩ a b c d, ivV ⟨ly, hy, true⟩ a2 b2 c2 d2] w fun e w' => e = .returned (ivV ⟨lo, hy, true⟩ a b2 c d2) ∧ Below w.heap.size w w' := by
 have H := Hd h1
 have K := Hd h2
 have L := Hd h3
 have M := Hd h4
 clear h1 h2 h3 h4
 go_enter Tryz.func118, Tryz.ntmps118
 have B0 := brl w
 go_wp2_with fail
 refine bodyPost_ret (v := .agg #[.int .i64 lo.maj, .int .i64 lo.min, .int .i64 lo.pat, .slice a lo.pre.length c, .int .i64 hy.maj, .int .i64 hy.min, .int .i64 hy.pat, .slice b2 hy.pre.length d2, .bool true]) (by simp [results, Tryz.results118, go_sem]) rfl ⟨rfl, by go_grown⟩
set_option maxHeartbeats 2000000 in
theorem joined_c (lo hi ly hy : Pl.Ver) (a b a2 b2 : Option Addr) (c d c2 d2 : Nat) (w : World) (h1 : VIn w lo a c) (h2 : VIn w hi b d) (h3 : VIn w ly a2 c2) (h4 : VIn w hy b2 d2) (o2 : hi.Ok) (_ : ly.Ok) (o4 : hy.Ok) (hk : Pl.verCmp hi hy < 0) :
 Calls Tryz.prog 118 #[ivV ⟨lo, hi, false⟩ a b c d, ivV ⟨ly, hy, false⟩ a2 b2 c2 d2] w fun e w' => e = .returned (ivV ⟨lo, hy, false⟩ a b2 c d2) ∧ Below w.heap.size w w' := by
 have H := Hd h1
 have K := Hd h2
 have L := Hd h3
 have M := Hd h4
 obtain ⟨k, e1⟩ : ∃ k, Pl.verCmp hi hy = k := ⟨_, rfl⟩
 rw [e1] at hk
 have C1 := Hd (fun (W : World) (g1 : VIn W hi b d) (g2 : VIn W hy b2 d2) => VersionOrder_any hi hy b b2 d d2 W (VOk.of g1 o2) (VOk.of g2 o4))
 rw [e1] at C1
 have t1 := decT hk
 clear e1 hk
 clear h1 h2 h3 h4 o2 o4
 go_enter Tryz.func118, Tryz.ntmps118
 have B0 := brl w
 go_wp2_with fail
 refine (C1.out _ (K.out.bl (by go_grown)) (M.out.bl (by go_grown))).mono ?_
 rintro e w1 ⟨rfl, hb⟩
 have B1 := bcm w hb
 have q1 : w.heap.size + 3 ≤ w1.heap.size := qle hb
 replace H := Hd ((((H.out.al _).al _).al _).bl hb)
 replace K := Hd ((((K.out.al _).al _).al _).bl hb)
 replace L := Hd ((((L.out.al _).al _).al _).bl hb)
 replace M := Hd ((((M.out.al _).al _).al _).bl hb)
 have X := ((((bkn w.heap.size [.int .i64 lo.maj, .int .i64 lo.min, .int .i64 lo.pat, .slice a lo.pre.length c, .int .i64 hi.maj, .int .i64 hi.min, .int .i64 hi.pat, .slice b hi.pre.length d, .bool false] 101).alloc _).alloc _)).bw hb
 have Y := (((bkn (w.heap.size + 1) [.int .i64 ly.maj, .int .i64 ly.min, .int .i64 ly.pat, .slice a2 ly.pre.length c2, .int .i64 hy.maj, .int .i64 hy.min, .int .i64 hy.pat, .slice b2 hy.pre.length d2, .bool false] 101).alloc _)).bw hb
 have R := ((bkn (w.heap.size + 1 + 1) [.int .i64 0, .int .i64 0, .int .i64 0, .slice none 0 0, .int .i64 0, .int .i64 0, .int .i64 0, .slice none 0 0, .bool false] 101)).bw hb
 clear hb
 have s1 := B1.size
 have ⟨Xc, Xf, Xl⟩ := X
 have ⟨Yc, Yf, Yl⟩ := Y
 have ⟨Rc, Rf, Rl⟩ := R
 go_wp2_with fail
 have RN := (((((((((R.st 0 (.int .i64 lo.maj)).st 1 (.int .i64 lo.min)).st 2 (.int .i64 lo.pat)).st 3 (.slice a lo.pre.length c)).st 4 (.int .i64 hy.maj)).st 5 (.int .i64 hy.min)).st 6 (.int .i64 hy.pat)).st 7 (.slice b2 hy.pre.length d2)).st 8 (.bool false))
 obtain ⟨RNc, RNf, RNl⟩ := RN
 refine bodyPost_ret (v := .agg #[.int .i64 lo.maj, .int .i64 lo.min, .int .i64 lo.pat, .slice a lo.pre.length c, .int .i64 hy.maj, .int .i64 hy.min, .int .i64 hy.pat, .slice b2 hy.pre.length d2, .bool false]) (by simp [results, Tryz.results118, go_sem, RNc]) rfl ⟨rfl, by go_grown⟩
set_option maxHeartbeats 2000000 in
theorem joined_d (lo hi ly hy : Pl.Ver) (a b a2 b2 : Option Addr) (c d c2 d2 : Nat) (w : World) (h1 : VIn w lo a c) (h2 : VIn w hi b d) (h3 : VIn w ly a2 c2) (h4 : VIn w hy b2 d2) (o2 : hi.Ok) (_ : ly.Ok) (o4 : hy.Ok) (hk : ¬ Pl.verCmp hi hy < 0) :
 Calls Tryz.prog 118 #[ivV ⟨lo, hi, false⟩ a b c d, ivV ⟨ly, hy, false⟩ a2 b2 c2 d2] w fun e w' => e = .returned (ivV ⟨lo, hi, false⟩ a b c d) ∧ Below w.heap.size w w' := by
 have H := Hd h1
 have K := Hd h2
 have L := Hd h3
 have M := Hd h4
 obtain ⟨k, e1⟩ : ∃ k, Pl.verCmp hi hy = k := ⟨_, rfl⟩
 rw [e1] at hk
 have C1 := Hd (fun (W : World) (g1 : VIn W hi b d) (g2 : VIn W hy b2 d2) => VersionOrder_any hi hy b b2 d d2 W (VOk.of g1 o2) (VOk.of g2 o4))
 rw [e1] at C1
 have t1 := decF hk
 clear e1 hk
 clear h1 h2 h3 h4 o2 o4
 go_enter Tryz.func118, Tryz.ntmps118
 have B0 := brl w
 go_wp2_with fail
 refine (C1.out _ (K.out.bl (by go_grown)) (M.out.bl (by go_grown))).mono ?_
 rintro e w1 ⟨rfl, hb⟩
 have B1 := bcm w hb
 have q1 : w.heap.size + 3 ≤ w1.heap.size := qle hb
 replace H := Hd ((((H.out.al _).al _).al _).bl hb)
 replace K := Hd ((((K.out.al _).al _).al _).bl hb)
 replace L := Hd ((((L.out.al _).al _).al _).bl hb)
 replace M := Hd ((((M.out.al _).al _).al _).bl hb)
 have X := ((((bkn w.heap.size [.int .i64 lo.maj, .int .i64 lo.min, .int .i64 lo.pat, .slice a lo.pre.length c, .int .i64 hi.maj, .int .i64 hi.min, .int .i64 hi.pat, .slice b hi.pre.length d, .bool false] 101).alloc _).alloc _)).bw hb
 have Y := (((bkn (w.heap.size + 1) [.int .i64 ly.maj, .int .i64 ly.min, .int .i64 ly.pat, .slice a2 ly.pre.length c2, .int .i64 hy.maj, .int .i64 hy.min, .int .i64 hy.pat, .slice b2 hy.pre.length d2, .bool false] 101).alloc _)).bw hb
 have R := ((bkn (w.heap.size + 1 + 1) [.int .i64 0, .int .i64 0, .int .i64 0, .slice none 0 0, .int .i64 0, .int .i64 0, .int .i64 0, .slice none 0 0, .bool false] 101)).bw hb
 clear hb
 have s1 := B1.size
 have ⟨Xc, Xf, Xl⟩ := X
 have ⟨Yc, Yf, Yl⟩ := Y
 have ⟨Rc, Rf, Rl⟩ := R
 go_wp2_with fail
 have RN := (((((((((R.st 0 (.int .i64 lo.maj)).st 1 (.int .i64 lo.min)).st 2 (.int .i64 lo.pat)).st 3 (.slice a lo.pre.length c)).st 4 (.int .i64 hi.maj)).st 5 (.int .i64 hi.min)).st 6 (.int .i64 hi.pat)).st 7 (.slice b hi.pre.length d)).st 8 (.bool false))
 obtain ⟨RNc, RNf, RNl⟩ := RN
 refine bodyPost_ret (v := .agg #[.int .i64 lo.maj, .int .i64 lo.min, .int .i64 lo.pat, .slice a lo.pre.length c, .int .i64 hi.maj, .int .i64 hi.min, .int .i64 hi.pat, .slice b hi.pre.length d, .bool false]) (by simp [results, Tryz.results118, go_sem, RNc]) rfl ⟨rfl, by go_grown⟩
end
end Go.Proofs.YtolfgcoalihmgaaGreatDoor
