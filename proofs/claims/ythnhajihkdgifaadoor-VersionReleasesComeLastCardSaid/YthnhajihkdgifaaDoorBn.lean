/- Contracts: the text of a version, by the program and by the reference. -/
import Derived.Test.YthnhajihkdgifaaDoorBm
import Derived.Test.YthnhajihkdgifaaDoorPs
namespace Go.Proofs.YthnhajihkdgifaaDoor
open Go.RowKit

namespace Pl
theorem mkS_app (a b : List UInt8) : mkS a ++ mkS b = mkS (a ++ b) := ba_app a b
theorem mkS_size (l : List UInt8) : (mkS l).size = l.length := by show l.toArray.size = _; simp
theorem dot_mkS : (⟨#[46]⟩ : ByteArray) = mkS [46] := rfl
theorem numT_mkS (v : Ver) : ((((mkS (digS v.maj) ++ (⟨#[46]⟩ : ByteArray)) ++ mkS (digS v.min)) ++ (⟨#[46]⟩ : ByteArray)) ++ mkS (digS v.pat)) = mkS (numT v) := by
  rw [dot_mkS, mkS_app, mkS_app, mkS_app, mkS_app]; unfold numT; simp
theorem join_rest (x : List UInt8) (l : List (List UInt8)) : Lib.join (x :: l) [46] = x ++ restT l := by
  unfold Lib.join restT
  induction l generalizing x with
  | nil => simp [List.intercalate]
  | cons y l ih =>
    have := ih y
    simp only [List.intercalate, List.intersperse_cons_cons, List.flatten_cons, List.flatMap_cons] at this ⊢
    rw [this]; simp
theorem pre_join {l : List (List UInt8)} (h : l ≠ []) : 45 :: Lib.join l [46] = preT l := by
  cases l with
  | nil => exact absurd rfl h
  | cons x l => rw [join_rest]; rfl
theorem digS_size {n : Int} (h : inB n 0 1000000000 = true) : (mkS (digS n)).size ≤ 10 := by
  have := inB_true.1 h
  rw [mkS_size]; exact dS_len10 (by omega)
theorem ids_len {v : Ver} (h : v.Ok) : (preT (v.pre.map bsl)).length ≤ 36 := by
  have l4 := preT_len (v.pre.map bsl) (fun x hx => by
    obtain ⟨s, hs, rfl⟩ := List.mem_map.1 hx
    exact (identB_iff.1 (h.i s hs)).2.1)
  have := h.n
  simp only [List.length_map] at l4
  omega
end Pl

theorem Join_any (xs : List ByteArray) (oa : Option Addr) (c : Nat) (w : World) (hs : Sl w oa xs.length c 1 (strVals xs)) (hne : xs ≠ []) (hn : xs.length ≤ 1048576) (hl : (Lib.join (xs.map Pl.bsl) [46]).length ≤ 1048576) :
    Calls Tryd.prog 35 #[.slice oa xs.length c, .string (⟨#[46]⟩ : ByteArray)] w fun e w' => e = .returned (.string (Pl.mkS (Lib.join (xs.map Pl.bsl) [46]))) ∧ Below w.heap.size w w' := by
  rcases hs.mem with h0 | ⟨b, off, rfl, hlt, hc⟩
  · exact absurd (by simpa [strVals] using h0) hne
  · exact Tryd.strings_Join b off c xs (⟨#[46]⟩ : ByteArray) w (fun j x hx => hc j _ (by unfold strVals; rw [List.getElem?_map, hx]; rfl)) hlt (by omega) hs.hcap (by show (Lib.join (xs.map Pl.bsl) [46]).length ≤ _; omega)

/-- The text of a version, if it is valid. -/
def Pl.fmtV (v : Pl.Ver) : ByteArray := if (Pl.vrF v).1 ≠ 0 then Pl.mkS [] else Pl.mkS (Pl.verT v)

set_option maxHeartbeats 1000000 in
theorem Format_bad (v : Pl.Ver) (a : Option Addr) (c : Nat) (w : World) (h : VIn w v a c) (hbad : (Pl.vrF v).1 ≠ 0) :
    Calls Tryd.prog 18 #[verV v a c] w fun e w' => e = .returned (.tuple #[.string (Pl.fmtV v), fltV (Pl.vrF v)]) ∧ Below w.heap.size w w' := by
  have H := Lib.hid h
  have E : Pl.fmtV v = ⟨#[]⟩ := by unfold Pl.fmtV; rw [if_pos hbad]; rfl
  rw [E]
  obtain ⟨F, hF⟩ : ∃ F, Pl.vrF v = F := ⟨_, rfl⟩
  have HF := Lib.hid hF
  rw [hF] at hbad ⊢
  obtain ⟨f1, f2⟩ := F
  have u1 := bneT hbad
  have u2 := beqF hbad
  clear hbad hF E h
  go_enter Tryd.func18, Tryd.ntmps18
  go_wp2_with fail
  refine (Validate_any v a c _ (H.out.below (by go_grown) (Nat.le_refl _))).mono ?_
  rw [HF.out]
  rintro e w1 ⟨rfl, hb1⟩
  have B1 : Below w.heap.size w w1 := bcall (by go_grown) hb1 (by go_size)
  have rx : Box2 w1 (w.heap.size + 1) (.int .i64 0) (.int .i64 0) := (Box2.newAt (by simp)).below hb1 (by simp)
  have z2 := rx.lt
  obtain ⟨C0, C1, D0, D1, -⟩ := rx
  clear hb1
  go_wp2_with fail
  go_region
  go_wp2_with fail
  obtain ⟨R0, R1, -, -, -⟩ := (Box2.mk C0 C1 D0 D1 z2).set (.int .i64 f1) (.int .i64 f2)
  exact bodyPost_ret (v := .tuple #[.string ⟨#[]⟩, .agg #[.int .i64 f1, .int .i64 f2]]) (by simp [results, Tryd.results18, go_sem, R0, R1, z2]) rfl ⟨rfl, by go_grown⟩

set_option maxHeartbeats 2000000 in
theorem Format_good (v : Pl.Ver) (a : Option Addr) (c : Nat) (w : World) (h : VIn w v a c) (ok : v.Ok) (E : Env w) :
    Calls Tryd.prog 18 #[verV v a c] w fun e w' => e = .returned (.tuple #[.string (Pl.fmtV v), fltV (Pl.vrF v)]) ∧ Below w.heap.size w w' := by
  have H := Lib.hid h
  have HE := Lib.hid E
  have OK := Lib.hid ok
  have HF := Lib.hid (Pl.vrF_ok ok)
  have m1 := Pl.inT ok.m1
  have m2 := Pl.inT ok.m2
  have m3 := Pl.inT ok.m3
  have s1 := Pl.digS_size ok.m1
  have s2 := Pl.digS_size ok.m2
  have s3 := Pl.digS_size ok.m3
  have hn := ok.n
  have ET := Lib.hid (show Pl.fmtV v = Pl.mkS (Pl.numT v) ++ Pl.mkS (Pl.preT (v.pre.map Pl.bsl)) by unfold Pl.fmtV; rw [HF.out, if_neg (by decide), Pl.mkS_app]; rfl)
  have EN := Lib.hid (Pl.numT_mkS v)
  have k1 : ∀ s : ByteArray, (s ++ (⟨#[46]⟩ : ByteArray)).size = s.size + 1 := fun s => ByteArray.size_append
  have k2 : ∀ s t : ByteArray, (s ++ t).size = s.size + t.size := fun s t => ByteArray.size_append
  rw [HF.out]
  clear h ok E
  obtain ⟨S1, h1⟩ : ∃ S, Pl.mkS (Pl.digS v.maj) = S := ⟨_, rfl⟩
  obtain ⟨S2, h2⟩ : ∃ S, Pl.mkS (Pl.digS v.min) = S := ⟨_, rfl⟩
  obtain ⟨S3, h3⟩ : ∃ S, Pl.mkS (Pl.digS v.pat) = S := ⟨_, rfl⟩
  rw [h1] at s1
  rw [h2] at s2
  rw [h3] at s3
  rw [h1, h2, h3] at EN
  have q1 : (S1.size : Int) ≤ 8388608 := by omega
  have q2 : (S2.size : Int) ≤ 8388608 := by omega
  have q3 : (S3.size : Int) ≤ 8388608 := by omega
  have q4 : ((S1 ++ (⟨#[46]⟩ : ByteArray)).size : Int) ≤ 8388608 := by rw [k1]; omega
  have q5 : (((S1 ++ (⟨#[46]⟩ : ByteArray)) ++ S2).size : Int) ≤ 8388608 := by rw [k2, k1]; omega
  have q6 : ((((S1 ++ (⟨#[46]⟩ : ByteArray)) ++ S2) ++ (⟨#[46]⟩ : ByteArray)).size : Int) ≤ 8388608 := by rw [k1, k2, k1]; omega
  have q8 : (((((S1 ++ (⟨#[46]⟩ : ByteArray)) ++ S2) ++ (⟨#[46]⟩ : ByteArray)) ++ S3).size : Int) ≤ 100 := by rw [k2, k1, k2, k1]; omega
  have I1 := Lib.hid (show ∀ W, Env W → Calls Tryd.prog 34 #[.int .i64 v.maj] W fun e w' => e = .returned (.string S1) ∧ Below W.heap.size W w' from fun W e => h1 ▸ Itoa_any v.maj W (by omega) (by omega) e)
  have I2 := Lib.hid (show ∀ W, Env W → Calls Tryd.prog 34 #[.int .i64 v.min] W fun e w' => e = .returned (.string S2) ∧ Below W.heap.size W w' from fun W e => h2 ▸ Itoa_any v.min W (by omega) (by omega) e)
  have I3 := Lib.hid (show ∀ W, Env W → Calls Tryd.prog 34 #[.int .i64 v.pat] W fun e w' => e = .returned (.string S3) ∧ Below W.heap.size W w' from fun W e => h3 ▸ Itoa_any v.pat W (by omega) (by omega) e)
  clear h1 h2 h3 k1 k2
  go_enter Tryd.func18, Tryd.ntmps18
  go_wp2_with fail
  refine (Validate_any v a c _ (H.out.below (by go_grown) (Nat.le_refl _))).mono ?_
  rw [HF.out]
  rintro e w1 ⟨rfl, hb1⟩
  have B1 : Below w.heap.size w w1 := bcall (by go_grown) hb1 (by go_size)
  have VB : Blk w1 w.heap.size [.int .i64 v.maj, .int .i64 v.min, .int .i64 v.pat, .slice a v.pre.length c] := ((Blk.new _ _ 24 (by simp)).alloc _).below hb1 (by go_size)
  have FB : Box2 w1 (w.heap.size + 1) (.int .i64 0) (.int .i64 0) := (Box2.newAt (by simp)).below hb1 (by simp)
  clear hb1
  have e0 := VB.c 0 _ rfl
  have e1 := VB.c 1 _ rfl
  have e2 := VB.c 2 _ rfl
  have e3 := VB.c 3 _ rfl
  have e4 := VB.lt
  go_wp2_with fail
  refine wp_region_ord [0, 1, 4, 5, 9, 10, 2, 3, 6, 7, 8, 11, 12, 13] (by kernel_rfl) (by kernel_rfl) ?_
  repeat (refine wpI_rd rfl rfl ?_; go_big_quiet_step (fail); refine wpQuiet_nil ?_)
  refine wpI_call (f := 34) (args := #[.int .i64 v.maj]) rfl rfl rfl (by simp [go_sem]) ?_
  have BW := (B1.alloc B1.size (.cells #[.int .i64 0, .int .i64 0] 27)).drew
  refine (I1.out _ (HE.out.below BW (Nat.le_refl _))).mono ?_
  rintro e w2 ⟨rfl, hb2⟩
  refine ⟨_, rfl, hb2, ?_⟩
  have B2 : Below w.heap.size w w2 := bcall BW hb2 BW.size
  have VB2 := ((VB.alloc (.cells #[.int .i64 0, .int .i64 0] 27)).drew).below hb2 ((VB.alloc _).drew).lt
  have FB2 := ((FB.alloc (.cells #[.int .i64 0, .int .i64 0] 27)).drew).below hb2 ((FB.alloc _).drew).lt
  clear hb2 BW e0 e1 e2 e3 e4 VB FB
  try simp only [Act.put, List.setIfInBounds_toArray, List.set_cons_zero, List.set_cons_succ]
  repeat (refine wpI_rd rfl rfl ?_; go_big_quiet_step (fail); refine wpQuiet_nil ?_)
  refine wpI_call (f := 34) (args := #[.int .i64 v.min]) rfl rfl rfl (by simp [go_sem]) ?_
  refine (I2.out _ (HE.out.below B2 (Nat.le_refl _))).mono ?_
  rintro e w3 ⟨rfl, hb3⟩
  refine ⟨_, rfl, hb3, ?_⟩
  have B3 : Below w.heap.size w w3 := bcall B2 hb3 B2.size
  have VB3 := VB2.below hb3 VB2.lt
  have FB3 := FB2.below hb3 FB2.lt
  clear hb3 VB2 FB2
  try simp only [Act.put, List.setIfInBounds_toArray, List.set_cons_zero, List.set_cons_succ]
  repeat (refine wpI_rd rfl rfl ?_; go_big_quiet_step (fail); refine wpQuiet_nil ?_)
  refine wpI_call (f := 34) (args := #[.int .i64 v.pat]) rfl rfl rfl (by simp [go_sem]) ?_
  refine (I3.out _ (HE.out.below B3 (Nat.le_refl _))).mono ?_
  rintro e w4 ⟨rfl, hb4⟩
  refine ⟨_, rfl, hb4, ?_⟩
  have B4 : Below w.heap.size w w4 := bcall B3 hb4 B3.size
  have VB4 := VB3.below hb4 VB3.lt
  have FB4 := FB3.below hb4 FB3.lt
  clear hb4 VB3 FB3
  try simp only [Act.put, List.setIfInBounds_toArray, List.set_cons_zero, List.set_cons_succ]
  repeat (refine wpI_rd rfl rfl ?_; go_big_quiet_step (fail); refine wpQuiet_nil ?_)
  refine wpI_nil ?_
  try simp only [Act.put, List.setIfInBounds_toArray, List.set_cons_zero, List.set_cons_succ]
  have e0 := VB4.c 0 _ rfl
  have e1 := VB4.c 1 _ rfl
  have e2 := VB4.c 2 _ rfl
  have e3 := VB4.c 3 _ rfl
  have e4 := VB4.lt
  generalize (((S1 ++ (⟨#[46]⟩ : ByteArray)) ++ S2) ++ (⟨#[46]⟩ : ByteArray)) ++ S3 = T at *
  have q9 : (T.size : Int) ≤ 8388608 := by omega
  clear I1 I2 I3 q1 q2 q3 q4 q5 q6 s1 s2 s3
  by_cases hp : v.pre = []
  · have p1 : v.pre.length = 0 := by rw [hp]; rfl
    have t1 : decide (0 < v.pre.length) = false := by simp [p1]
    have t2 : (v.pre.length : Int) ≤ 0 := by omega
    have ER := Lib.hid (show T = Pl.fmtV v by rw [ET.out, EN.out, Pl.mkS_app, hp]; simp [Pl.preT])
    clear hp p1
    obtain ⟨C0, C1, D0, D1, z2⟩ := FB4
    go_wp2_with fail
    obtain ⟨R0, R1, -, -, -⟩ := (Box2.mk C0 C1 D0 D1 z2).set (.int .i64 0) (.int .i64 0)
    exact bodyPost_ret (v := .tuple #[.string T, .agg #[.int .i64 0, .int .i64 0]]) (by simp [results, Tryd.results18, go_sem, R0, R1]) rfl ⟨by rw [ER.out], by go_grown⟩
  · have p1 : 0 < v.pre.length := List.length_pos_iff.2 hp
    have hj : Pl.bsl (⟨#[45]⟩ : ByteArray) ++ Lib.join (v.pre.map Pl.bsl) [46] = Pl.preT (v.pre.map Pl.bsl) := Pl.pre_join (by simpa using hp)
    have jl : (Lib.join (v.pre.map Pl.bsl) [46]).length ≤ 36 := by
      have h1 := Pl.ids_len OK.out
      rw [← hj, List.length_append] at h1
      omega
    obtain ⟨J, hJ⟩ : ∃ J, Pl.mkS (Lib.join (v.pre.map Pl.bsl) [46]) = J := ⟨_, rfl⟩
    have js : J.size ≤ 36 := by rw [← hJ, Pl.mkS_size]; exact jl
    have r1 : (J.size : Int) ≤ 8388608 := by omega
    have r2 : (((⟨#[45]⟩ : ByteArray) ++ J).size : Int) ≤ 8388608 := by rw [ByteArray.size_append]; have : ((⟨#[45]⟩ : ByteArray)).size = 1 := rfl; omega
    have ER := Lib.hid (show T ++ ((⟨#[45]⟩ : ByteArray) ++ J) = Pl.fmtV v by
      rw [ET.out, EN.out, ← hJ, show (⟨#[45]⟩ : ByteArray) = Pl.mkS (Pl.bsl (⟨#[45]⟩ : ByteArray)) from rfl, Pl.mkS_app (Pl.bsl (⟨#[45]⟩ : ByteArray)), hj])
    have IJ := Lib.hid (show ∀ W, Below w.heap.size w W → Calls Tryd.prog 35 #[.slice a v.pre.length c, .string (⟨#[46]⟩ : ByteArray)] W fun e w' => e = .returned (.string J) ∧ Below W.heap.size W w' from fun W hb => hJ ▸ Join_any v.pre a c W (H.out.sl.below hb (Nat.le_refl _)) hp (by omega) (by omega))
    clear hp hj hJ jl
    go_wp2_with fail
    refine (IJ.out _ B4).mono ?_
    rintro e w5 ⟨rfl, hb5⟩
    have B5 : Below w.heap.size w w5 := bcall B4 hb5 B4.size
    have FB5 := FB4.below hb5 FB4.lt
    obtain ⟨C0, C1, D0, D1, z2⟩ := FB5
    clear hb5 FB4 e0 e1 e2 e3 e4 VB4
    go_wp2_with fail
    obtain ⟨R0, R1, -, -, -⟩ := (Box2.mk C0 C1 D0 D1 z2).set (.int .i64 0) (.int .i64 0)
    exact bodyPost_ret (v := .tuple #[.string (T ++ ((⟨#[45]⟩ : ByteArray) ++ J)), .agg #[.int .i64 0, .int .i64 0]]) (by simp [results, Tryd.results18, go_sem, R0, R1]) rfl ⟨by rw [ER.out], by go_grown⟩
theorem Format_any (v : Pl.Ver) (a : Option Addr) (c : Nat) (w : World) (h : VIn w v a c) (E : Env w) :
    Calls Tryd.prog 18 #[verV v a c] w fun e w' => e = .returned (.tuple #[.string (Pl.fmtV v), fltV (Pl.vrF v)]) ∧ Below w.heap.size w w' := by
  rcases Pl.vrF_cases v with ⟨-, ok⟩ | hb
  · exact Format_good v a c w h ok E
  · exact Format_bad v a c w h hb
end Go.Proofs.YthnhajihkdgifaaDoor
