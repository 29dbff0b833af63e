/- Texts joined. -/
import Derived.Test.YtolfgcoalihmgaaGreatDoorMBm
import Derived.Test.YtolfgcoalihmgaaGreatDoorMQd
import Derived.Test.YtolfgcoalihmgaaGreatDoorMPb
import Derived.Test.YtolfgcoalihmgaaGreatDoorMKc
namespace Go.Proofs.YtolfgcoalihmgaaGreatDoor
section
open Go.RowKit
namespace Pl
theorem mkS_app (a b : List UInt8) : mkS a ++ mkS b = mkS (a ++ b) := ba_app a b
theorem mkS_size (l : List UInt8) : (mkS l).size = l.length := by show l.toArray.size = _; simp
theorem dot_mkS : (⟨#[46]⟩ : ByteArray) = mkS [46] := rfl
theorem numT_mkS (v : Ver) : ((((mkS (digS v.maj) ++ (⟨#[46]⟩ : ByteArray)) ++ mkS (digS v.min)) ++ (⟨#[46]⟩ : ByteArray)) ++ mkS (digS v.pat)) = mkS (numT v) := by
 rw [dot_mkS, mkS_app, mkS_app, mkS_app, mkS_app]; unfold numT; simp
theorem join_rest (x : List UInt8) (l : List (List UInt8)) : Lib.join (x :: l) [46] = x ++ restT l := by
 unfold Lib.join restT
 induction l generalizing x with
 | nil => simp [List.intercalate]
 | cons y l ih =>
   have := ih y
   simp only [List.intercalate, List.intersperse_cons_cons, List.flatten_cons, List.flatMap_cons] at this ⊢
   rw [this]; simp
theorem pre_join {l : List (List UInt8)} (h : l ≠ []) : 45 :: Lib.join l [46] = preT l := by
 cases l with
 | nil => exact absurd rfl h
 | cons x l => rw [join_rest]; rfl
theorem digS_size {n : Int} (h : inB n 0 1000000000 = true) : (mkS (digS n)).size ≤ 10 := by
 have := inB_true.1 h
 rw [mkS_size]; exact dS_len10 (by omega)
theorem ids_len {v : Ver} (h : v.Ok) : (preT (v.pre.map bsl)).length ≤ 36 := by
 have l4 := preT_len (v.pre.map bsl) (fun x hx => by
  obtain ⟨s, hs, rfl⟩ := List.mem_map.1 hx
  exact (identB_iff.1 (h.i s hs)).2.1)
 have := h.n
 simp only [List.length_map] at l4
 omega
end Pl
theorem Join_any (xs : List ByteArray) (oa : Option Addr) (c : Nat) (w : World) (hs : Sl w oa xs.length c 1 (strVals xs)) (hne : xs ≠ []) (hn : xs.length ≤ 1048576) (hl : (Lib.join (xs.map Pl.bsl) [46]).length ≤ 1048576) :
 Calls Tryz.prog 55 #[.slice oa xs.length c, .string (⟨#[46]⟩ : ByteArray)] w fun e w' => e = .returned (.string (Pl.mkS (Lib.join (xs.map Pl.bsl) [46]))) ∧ Below w.heap.size w w' := by
 rcases hs.mem with h0 | ⟨b, off, rfl, hlt, hc⟩
 · exact absurd (by simpa [strVals] using h0) hne
 · exact Tryz.strings_Join b off c xs (⟨#[46]⟩ : ByteArray) w (fun j x hx => hc j _ (by unfold strVals; rw [List.getElem?_map, hx]; rfl)) hlt (by omega) hs.hcap (by show (Lib.join (xs.map Pl.bsl) [46]).length ≤ _; omega)
def Pl.fmtV (v : Pl.Ver) : ByteArray := if (Pl.vrF v).1 ≠ 0 then Pl.mkS [] else Pl.mkS (Pl.verT v)
set_option maxHeartbeats 1000000 in
theorem Format_bad (v : Pl.Ver) (a : Option Addr) (c : Nat) (w : World) (h : VIn w v a c) (hbad : (Pl.vrF v).1 ≠ 0) :
 Calls Tryz.prog 13 #[verV v a c] w fun e w' => e = .returned (.tuple #[.string (Pl.fmtV v), fltV (Pl.vrF v)]) ∧ Below w.heap.size w w' := by
 have H := Hd h
 have E : Pl.fmtV v = ⟨#[]⟩ := by unfold Pl.fmtV; rw [if_pos hbad]; rfl
 rw [E]
 obtain ⟨F, hF⟩ : ∃ F, Pl.vrF v = F := ⟨_, rfl⟩
 have HF := Hd hF
 rw [hF] at hbad ⊢
 obtain ⟨f1, f2⟩ := F
 have u1 := bneT hbad
 have u2 := beqF hbad
 clear hbad hF E h
 go_enter Tryz.func13, Tryz.ntmps13
 go_wp2_with fail
 refine (Validate_any v a c _ (H.out.bl (by go_grown))).mono ?_
 rw [HF.out]
 rintro e w1 ⟨rfl, hb1⟩
 have B1 := bcm w hb1
 have rx : Box2 w1 (w.heap.size + 1) (.int .i64 0) (.int .i64 0) := (Box2.newAt (by simp)).below hb1 (by simp)
 have z2 := rx.lt
 obtain ⟨C0, C1, D0, D1, -⟩ := rx
 clear hb1
 go_wp2_with fail
 go_region
 go_wp2_with fail
 obtain ⟨R0, R1, -, -, -⟩ := (Box2.mk C0 C1 D0 D1 z2).set (.int .i64 f1) (.int .i64 f2)
 exact bodyPost_ret (v := .tuple #[.string ⟨#[]⟩, .agg #[.int .i64 f1, .int .i64 f2]]) (by simp [results, Tryz.results13, go_sem, R0, R1, z2]) rfl ⟨rfl, by go_grown⟩
set_option maxHeartbeats 2000000 in
theorem Format_good (v : Pl.Ver) (a : Option Addr) (c : Nat) (w : World) (h : VIn w v a c) (ok : v.Ok) (E : Env w) :
 Calls Tryz.prog 13 #[verV v a c] w fun e w' => e = .returned (.tuple #[.string (Pl.fmtV v), fltV (Pl.vrF v)]) ∧ Below w.heap.size w w' := by
 have H := Hd h
 have HE := Hd E
 have OK := Hd ok
 have HF := Hd (Pl.vrF_ok ok)
 have m1 := Pl.inT ok.m1
 have m2 := Pl.inT ok.m2
 have m3 := Pl.inT ok.m3
 have s1 := Pl.digS_size ok.m1
 have s2 := Pl.digS_size ok.m2
 have s3 := Pl.digS_size ok.m3
 have hn := ok.n
 have ET := Hd (show Pl.fmtV v = Pl.mkS (Pl.numT v) ++ Pl.mkS (Pl.preT (v.pre.map Pl.bsl)) by unfold Pl.fmtV; rw [HF.out, if_neg (by decide), Pl.mkS_app]; rfl)
 have EN := Hd (Pl.numT_mkS v)
 have k1 : ∀ s : ByteArray, (s ++ (⟨#[46]⟩ : ByteArray)).size = s.size + 1 := fun s => ByteArray.size_append
 have k2 : ∀ s t : ByteArray, (s ++ t).size = s.size + t.size := fun s t => ByteArray.size_append
 rw [HF.out]
 clear h ok E
 obtain ⟨S1, h1⟩ : ∃ S, Pl.mkS (Pl.digS v.maj) = S := ⟨_, rfl⟩
 obtain ⟨S2, h2⟩ : ∃ S, Pl.mkS (Pl.digS v.min) = S := ⟨_, rfl⟩
 obtain ⟨S3, h3⟩ : ∃ S, Pl.mkS (Pl.digS v.pat) = S := ⟨_, rfl⟩
 rw [h1] at s1
 rw [h2] at s2
 rw [h3] at s3
 rw [h1, h2, h3] at EN
 have q1 : (S1.size : Int) ≤ 8388608 := by omega
 have q2 : (S2.size : Int) ≤ 8388608 := by omega
 have q3 : (S3.size : Int) ≤ 8388608 := by omega
 have q4 : ((S1 ++ (⟨#[46]⟩ : ByteArray)).size : Int) ≤ 8388608 := by rw [k1]; omega
 have q5 : (((S1 ++ (⟨#[46]⟩ : ByteArray)) ++ S2).size : Int) ≤ 8388608 := by rw [k2, k1]; omega
 have q6 : ((((S1 ++ (⟨#[46]⟩ : ByteArray)) ++ S2) ++ (⟨#[46]⟩ : ByteArray)).size : Int) ≤ 8388608 := by rw [k1, k2, k1]; omega
 have q8 : (((((S1 ++ (⟨#[46]⟩ : ByteArray)) ++ S2) ++ (⟨#[46]⟩ : ByteArray)) ++ S3).size : Int) ≤ 100 := by rw [k2, k1, k2, k1]; omega
 have I1 := Hd (show ∀ W, Env W → Calls Tryz.prog 54 #[.int .i64 v.maj] W fun e w' => e = .returned (.string S1) ∧ Below W.heap.size W w' from fun W e => h1 ▸ Itoa_any v.maj W (by omega) (by omega) e)
 have I2 := Hd (show ∀ W, Env W → Calls Tryz.prog 54 #[.int .i64 v.min] W fun e w' => e = .returned (.string S2) ∧ Below W.heap.size W w' from fun W e => h2 ▸ Itoa_any v.min W (by omega) (by omega) e)
 have I3 := Hd (show ∀ W, Env W → Calls Tryz.prog 54 #[.int .i64 v.pat] W fun e w' => e = .returned (.string S3) ∧ Below W.heap.size W w' from fun W e => h3 ▸ Itoa_any v.pat W (by omega) (by omega) e)
 clear h1 h2 h3 k1 k2
 go_enter Tryz.func13, Tryz.ntmps13
 go_wp2_with fail
 refine (Validate_any v a c _ (H.out.bl (by go_grown))).mono ?_
 rw [HF.out]
 rintro e w1 ⟨rfl, hb1⟩
 have B1 := bcm w hb1
 have VB : Blk w1 w.heap.size [.int .i64 v.maj, .int .i64 v.min, .int .i64 v.pat, .slice a v.pre.length c] := ((Blk.new _ _ 24 (by simp)).alloc _).below hb1 (by go_size)
 have FB : Box2 w1 (w.heap.size + 1) (.int .i64 0) (.int .i64 0) := (Box2.newAt (by simp)).below hb1 (by simp)
 clear hb1
 have e0 := VB.c 0 _ rfl
 have e1 := VB.c 1 _ rfl
 have e2 := VB.c 2 _ rfl
 have e3 := VB.c 3 _ rfl
 have e4 := VB.lt
 go_wp2_with fail
 refine wp_region_ord [0, 1, 4, 5, 9, 10, 2, 3, 6, 7, 8, 11, 12, 13] (by kernel_rfl) (by kernel_rfl) ?_
 repeat (refine wpI_rd rfl rfl ?_; go_big_quiet_step (fail); refine wpQuiet_nil ?_)
 refine wpI_call (f := 54) (args := #[.int .i64 v.maj]) rfl rfl rfl (by simp [go_sem]) ?_
 have BW := (B1.alloc B1.size (.cells #[.int .i64 0, .int .i64 0] 27)).drew
 refine (I1.out _ (HE.out.bl BW)).mono ?_
 rintro e w2 ⟨rfl, hb2⟩
 refine ⟨_, rfl, hb2, ?_⟩
 have B2 : Below w.heap.size w w2 := bcall BW hb2 BW.size
 have VB2 := ((VB.alloc (.cells #[.int .i64 0, .int .i64 0] 27)).drew).below hb2 ((VB.alloc _).drew).lt
 have FB2 := ((FB.alloc (.cells #[.int .i64 0, .int .i64 0] 27)).drew).below hb2 ((FB.alloc _).drew).lt
 clear hb2 BW e0 e1 e2 e3 e4 VB FB
 try simp only [pts]
 repeat (refine wpI_rd rfl rfl ?_; go_big_quiet_step (fail); refine wpQuiet_nil ?_)
 refine wpI_call (f := 54) (args := #[.int .i64 v.min]) rfl rfl rfl (by simp [go_sem]) ?_
 refine (I2.out _ (HE.out.bl B2)).mono ?_
 rintro e w3 ⟨rfl, hb3⟩
 refine ⟨_, rfl, hb3, ?_⟩
 have B3 : Below w.heap.size w w3 := bcall B2 hb3 B2.size
 have VB3 := VB2.below hb3 VB2.lt
 have FB3 := FB2.below hb3 FB2.lt
 clear hb3 VB2 FB2
 try simp only [pts]
 repeat (refine wpI_rd rfl rfl ?_; go_big_quiet_step (fail); refine wpQuiet_nil ?_)
 refine wpI_call (f := 54) (args := #[.int .i64 v.pat]) rfl rfl rfl (by simp [go_sem]) ?_
 refine (I3.out _ (HE.out.bl B3)).mono ?_
 rintro e w4 ⟨rfl, hb4⟩
 refine ⟨_, rfl, hb4, ?_⟩
 have B4 : Below w.heap.size w w4 := bcall B3 hb4 B3.size
 have VB4 := VB3.below hb4 VB3.lt
 have FB4 := FB3.below hb4 FB3.lt
 clear hb4 VB3 FB3
 try simp only [pts]
 repeat (refine wpI_rd rfl rfl ?_; go_big_quiet_step (fail); refine wpQuiet_nil ?_)
 refine wpI_nil ?_
 try simp only [pts]
 have e0 := VB4.c 0 _ rfl
 have e1 := VB4.c 1 _ rfl
 have e2 := VB4.c 2 _ rfl
 have e3 := VB4.c 3 _ rfl
 have e4 := VB4.lt
 generalize (((S1 ++ (⟨#[46]⟩ : ByteArray)) ++ S2) ++ (⟨#[46]⟩ : ByteArray)) ++ S3 = T at *
 have q9 : (T.size : Int) ≤ 8388608 := by omega
 clear I1 I2 I3 q1 q2 q3 q4 q5 q6 s1 s2 s3
 by_cases hp : v.pre = []
 · have p1 : v.pre.length = 0 := by rw [hp]; rfl
   have t1 : decide (0 < v.pre.length) = false := by simp [p1]
   have t2 : (v.pre.length : Int) ≤ 0 := by omega
   have ER := Hd (show T = Pl.fmtV v by rw [ET.out, EN.out, Pl.mkS_app, hp]; simp [Pl.preT])
   clear hp p1
   obtain ⟨C0, C1, D0, D1, z2⟩ := FB4
   go_wp2_with fail
   obtain ⟨R0, R1, -, -, -⟩ := (Box2.mk C0 C1 D0 D1 z2).set (.int .i64 0) (.int .i64 0)
   exact bodyPost_ret (v := .tuple #[.string T, .agg #[.int .i64 0, .int .i64 0]]) (by simp [results, Tryz.results13, go_sem, R0, R1]) rfl ⟨by rw [ER.out], by go_grown⟩
 · have p1 : 0 < v.pre.length := List.length_pos_iff.2 hp
   have hj : Pl.bsl (⟨#[45]⟩ : ByteArray) ++ Lib.join (v.pre.map Pl.bsl) [46] = Pl.preT (v.pre.map Pl.bsl) := Pl.pre_join (by simpa using hp)
   have jl : (Lib.join (v.pre.map Pl.bsl) [46]).length ≤ 36 := by
    have h1 := Pl.ids_len OK.out
    rw [← hj, List.length_append] at h1
    omega
   obtain ⟨J, hJ⟩ : ∃ J, Pl.mkS (Lib.join (v.pre.map Pl.bsl) [46]) = J := ⟨_, rfl⟩
   have js : J.size ≤ 36 := by rw [← hJ, Pl.mkS_size]; exact jl
   have r1 : (J.size : Int) ≤ 8388608 := by omega
   have r2 : (((⟨#[45]⟩ : ByteArray) ++ J).size : Int) ≤ 8388608 := by rw [ByteArray.size_append]; have : ((⟨#[45]⟩ : ByteArray)).size = 1 := rfl; omega
   have ER := Hd (show T ++ ((⟨#[45]⟩ : ByteArray) ++ J) = Pl.fmtV v by
    rw [ET.out, EN.out, ← hJ, show (⟨#[45]⟩ : ByteArray) = Pl.mkS (Pl.bsl (⟨#[45]⟩ : ByteArray)) from rfl, Pl.mkS_app (Pl.bsl (⟨#[45]⟩ : ByteArray)), hj])
   have IJ := Hd (show ∀ W, Below w.heap.size w W → Calls Tryz.prog 55 #[.slice a v.pre.length c, .string (⟨#[46]⟩ : ByteArray)] W fun e w' => e = .returned (.string J) ∧ Below W.heap.size W w' from fun W hb => hJ ▸ Join_any v.pre a c W (H.out.sl.bl hb) hp (by omega) (by omega))
   clear hp hj hJ jl
   go_wp2_with fail
   refine (IJ.out _ B4).mono ?_
   rintro e w5 ⟨rfl, hb5⟩
   have B5 : Below w.heap.size w w5 := bcall B4 hb5 B4.size
   have FB5 := FB4.below hb5 FB4.lt
   obtain ⟨C0, C1, D0, D1, z2⟩ := FB5
   clear hb5 FB4 e0 e1 e2 e3 e4 VB4
   go_wp2_with fail
   obtain ⟨R0, R1, -, -, -⟩ := (Box2.mk C0 C1 D0 D1 z2).set (.int .i64 0) (.int .i64 0)
   exact bodyPost_ret (v := .tuple #[.string (T ++ ((⟨#[45]⟩ : ByteArray) ++ J)), .agg #[.int .i64 0, .int .i64 0]]) (by simp [results, Tryz.results13, go_sem, R0, R1]) rfl ⟨by rw [ER.out], by go_grown⟩
theorem Format_any (v : Pl.Ver) (a : Option Addr) (c : Nat) (w : World) (h : VIn w v a c) (E : Env w) :
 Calls Tryz.prog 13 #[verV v a c] w fun e w' => e = .returned (.tuple #[.string (Pl.fmtV v), fltV (Pl.vrF v)]) ∧ Below w.heap.size w w' := by
 rcases Pl.vrF_cases v with ⟨-, ok⟩ | hb
 · exact Format_good v a c w h ok E
 · exact Format_bad v a c w h hb
end
section
open Go.RowKit
namespace Pl
def txtK (v : Ver) (k : Nat) : ByteArray := mkS (numT v ++ preT ((v.pre.take k).map bsl))
theorem restT_snoc (l : List (List UInt8)) (x : List UInt8) : restT (l ++ [x]) = restT l ++ 46 :: x := by simp [restT]
theorem preT_snoc (l : List (List UInt8)) (x : List UInt8) : preT (l ++ [x]) = preT l ++ (if l = [] then 45 else 46) :: x := by
 cases l with
 | nil => simp [preT, restT]
 | cons y l =>
   rw [if_neg (by simp), List.cons_append, preT, preT, restT_snoc]
   simp
theorem txt_succ {v : Ver} {k : Nat} (hk : k < v.pre.length) : (txtK v k ++ (if k = 0 then (⟨#[45]⟩ : ByteArray) else (⟨#[46]⟩ : ByteArray))) ++ v.pre[k] = txtK v (k + 1) := by
 have e : v.pre[k] = mkS (bsl v.pre[k]) := by simp [mkS, bsl]
 have e2 : (if k = 0 then (⟨#[45]⟩ : ByteArray) else (⟨#[46]⟩ : ByteArray)) = mkS [if k = 0 then 45 else 46] := by split <;> rfl
 rw [e2, e]
 unfold txtK
 rw [mkS_app, mkS_app, List.take_succ_eq_append_getElem hk, List.map_append, List.map_cons, List.map_nil, preT_snoc]
 by_cases h0 : k = 0
 · subst h0; simp
 · rw [if_neg h0, if_neg (by simp; exact ⟨h0, by intro h; rw [h] at hk; simp at hk⟩)]
   simp
theorem txt_zero (v : Ver) : txtK v 0 = mkS (numT v) := by unfold txtK; simp [preT]
theorem txt_all {v : Ver} {k : Nat} (hk : v.pre.length ≤ k) : txtK v k = mkS (verT v) := by unfold txtK; rw [List.take_of_length_le hk]; rfl
theorem restT_take (l : List (List UInt8)) (k : Nat) : (restT (l.take k)).length ≤ (restT l).length := by
 conv => rhs; rw [← List.take_append_drop k l]
 unfold restT
 rw [List.flatMap_append, List.length_append]; omega
theorem preT_take (l : List (List UInt8)) (k : Nat) : (preT (l.take k)).length ≤ (preT l).length := by
 cases l with
 | nil => simp
 | cons x l =>
   cases k with
   | zero => simp [preT]
   | succ k =>
     have := restT_take l k
     rw [List.take_succ_cons, preT, preT, List.length_append, List.length_append]; omega
theorem txt_size {v : Ver} (h : v.Ok) (k : Nat) : (txtK v k).size ≤ 80 := by
 unfold txtK
 rw [mkS_size, List.length_append, List.map_take]
 have h1 := verT_len h
 have h2 := preT_take (v.pre.map bsl) k
 unfold verT at h1
 rw [List.length_append] at h1
 omega
end Pl
set_option maxHeartbeats 2000000 in
theorem VersionText_any (v : Pl.Ver) (a : Option Addr) (c : Nat) (w : World) (h : VIn w v a c) (ok : v.Ok) :
 Calls Tryz.prog 79 #[verV v a c] w fun e w' => e = .returned (.string (Pl.mkS (Pl.verT v))) ∧ Below w.heap.size w w' := by
 have H := Hd h
 have OK := Hd ok
 have m1 := Pl.inT ok.m1
 have m2 := Pl.inT ok.m2
 have m3 := Pl.inT ok.m3
 have s1 := Pl.digS_size ok.m1
 have s2 := Pl.digS_size ok.m2
 have s3 := Pl.digS_size ok.m3
 have hn := ok.n
 have EN := Hd ((Pl.numT_mkS v).trans (Pl.txt_zero v).symm)
 have k1 : ∀ s : ByteArray, (s ++ (⟨#[46]⟩ : ByteArray)).size = s.size + 1 := fun s => ByteArray.size_append
 have k2 : ∀ s t : ByteArray, (s ++ t).size = s.size + t.size := fun s t => ByteArray.size_append
 clear h ok
 obtain ⟨S1, h1⟩ : ∃ S, Pl.mkS (Pl.digS v.maj) = S := ⟨_, rfl⟩
 obtain ⟨S2, h2⟩ : ∃ S, Pl.mkS (Pl.digS v.min) = S := ⟨_, rfl⟩
 obtain ⟨S3, h3⟩ : ∃ S, Pl.mkS (Pl.digS v.pat) = S := ⟨_, rfl⟩
 rw [h1] at s1
 rw [h2] at s2
 rw [h3] at s3
 rw [h1, h2, h3] at EN
 have q1 : (S1.size : Int) ≤ 8388608 := by omega
 have q2 : (S2.size : Int) ≤ 8388608 := by omega
 have q3 : (S3.size : Int) ≤ 8388608 := by omega
 have q4 : ((S1 ++ (⟨#[46]⟩ : ByteArray)).size : Int) ≤ 8388608 := by rw [k1]; omega
 have q5 : (((S1 ++ (⟨#[46]⟩ : ByteArray)) ++ S2).size : Int) ≤ 8388608 := by rw [k2, k1]; omega
 have q6 : ((((S1 ++ (⟨#[46]⟩ : ByteArray)) ++ S2) ++ (⟨#[46]⟩ : ByteArray)).size : Int) ≤ 8388608 := by rw [k1, k2, k1]; omega
 have D : ∀ (n : Int) (S : ByteArray), 0 ≤ n → n ≤ 1000000000 → Pl.mkS (Pl.digS n) = S → ∀ W, Calls Tryz.prog 121 #[.int .i64 n] W fun e w' => e = .returned (.string S) ∧ Below W.heap.size W w' := fun n S g1 g2 g3 W => by
  have := Digits_any n.toNat W (by omega)
  rw [show ((n.toNat : Nat) : Int) = n by omega] at this
  subst g3
  exact this.mono fun e w' ⟨h1, q, h2⟩ => ⟨h1, h2 ▸ below_drewN' (Below.refl _ _) q⟩
 have I1 := Hd (D _ _ m1.1 m1.2 h1)
 have I2 := Hd (D _ _ m2.1 m2.2 h2)
 have I3 := Hd (D _ _ m3.1 m3.2 h3)
 clear h1 h2 h3 k1 k2 D
 go_enter Tryz.func79, Tryz.ntmps79
 go_wp2_with fail
 refine wp_region_ord [0, 1, 4, 5, 9, 10, 2, 3, 6, 7, 8, 11, 12, 13] (by kernel_rfl) (by kernel_rfl) ?_
 repeat (refine wpI_rd rfl rfl ?_; go_big_quiet_step (fail); refine wpQuiet_nil ?_)
 have VB : Blk (w.alloc (.cells #[.int .i64 v.maj, .int .i64 v.min, .int .i64 v.pat, .slice a v.pre.length c] 24)).drew w.heap.size [.int .i64 v.maj, .int .i64 v.min, .int .i64 v.pat, .slice a v.pre.length c] := (Blk.new w [.int .i64 v.maj, .int .i64 v.min, .int .i64 v.pat, .slice a v.pre.length c] 24 rfl).drew
 have B1 : Below w.heap.size w (w.alloc (.cells #[.int .i64 v.maj, .int .i64 v.min, .int .i64 v.pat, .slice a v.pre.length c] 24)).drew := by go_grown
 refine wpI_call (f := 121) (args := #[.int .i64 v.maj]) rfl rfl rfl (by simp [go_sem]) ?_
 refine (I1.out _).mono ?_
 rintro e w2 ⟨rfl, hb2⟩
 refine ⟨_, rfl, hb2, ?_⟩
 have B2 : Below w.heap.size w w2 := bcall B1 hb2 B1.size
 have VB2 := VB.below hb2 VB.lt
 clear hb2 B1 VB
 try simp only [pts]
 repeat (refine wpI_rd rfl rfl ?_; go_big_quiet_step (fail); refine wpQuiet_nil ?_)
 refine wpI_call (f := 121) (args := #[.int .i64 v.min]) rfl rfl rfl (by simp [go_sem]) ?_
 refine (I2.out _).mono ?_
 rintro e w3 ⟨rfl, hb3⟩
 refine ⟨_, rfl, hb3, ?_⟩
 have B3 : Below w.heap.size w w3 := bcall B2 hb3 B2.size
 have VB3 := VB2.below hb3 VB2.lt
 clear hb3 B2 VB2
 try simp only [pts]
 repeat (refine wpI_rd rfl rfl ?_; go_big_quiet_step (fail); refine wpQuiet_nil ?_)
 refine wpI_call (f := 121) (args := #[.int .i64 v.pat]) rfl rfl rfl (by simp [go_sem]) ?_
 refine (I3.out _).mono ?_
 rintro e w4 ⟨rfl, hb4⟩
 refine ⟨_, rfl, hb4, ?_⟩
 have B4 : Below w.heap.size w w4 := bcall B3 hb4 B3.size
 have VB4 := VB3.below hb4 VB3.lt
 clear hb4 B3 VB3
 try simp only [pts]
 repeat (refine wpI_rd rfl rfl ?_; go_big_quiet_step (fail); refine wpQuiet_nil ?_)
 refine wpI_nil ?_
 try simp only [pts]
 have e0 := VB4.c 0 _ rfl
 have e1 := VB4.c 1 _ rfl
 have e2 := VB4.c 2 _ rfl
 have e3 := VB4.c 3 _ rfl
 have e4 := VB4.lt
 rw [EN.out]
 clear q1 q2 q3 q4 q5 q6 I1 I2 I3 EN s1 s2 s3
 go_wp2_with fail
 go_loop [3, 4] (fun s i => ∃ k : Nat, k ≤ v.pre.length ∧ i = .int .i64 k ∧ s = .string (Pl.txtK v k)) (fun _ i => v.pre.length - (intOf i).toNat)
 case atStart => exact ⟨0, Nat.zero_le _, rfl, rfl⟩
 case round =>
  obtain ⟨k, hk, rfl, rfl⟩ := hrel
  have z1 := Pl.txt_size OK.out k
  by_cases hlt : k < v.pre.length
  · obtain ⟨b, off, rfl, hb, hc⟩ := H.out.sl.strAt (by omega)
    have c1 : w4.cell? ⟨b, off + k, none⟩ = some (.string v.pre[k]) := by rw [B4.cell (p := ⟨b, off + k, none⟩) hb]; exact hc k hlt
    have z2 := (Pl.identB_iff.1 (OK.out.i _ (List.getElem_mem hlt))).2.1
    rw [Pl.bsl_len] at z2
    have T := Hd (Pl.txt_succ hlt)
    clear hc
    generalize v.pre[k] = X at *
    generalize Pl.txtK v k = Y at *
    have q1 : (X.size : Int) ≤ 8388608 := by omega
    have q2 : (Y.size : Int) ≤ 8388608 := by omega
    have q3 : ((Y ++ (⟨#[46]⟩ : ByteArray)).size : Int) ≤ 8388608 := by rw [ByteArray.size_append]; have : ((⟨#[46]⟩ : ByteArray)).size = 1 := rfl; omega
    have q4 : ((Y ++ (⟨#[45]⟩ : ByteArray)).size : Int) ≤ 8388608 := by rw [ByteArray.size_append]; have : ((⟨#[45]⟩ : ByteArray)).size = 1 := rfl; omega
    by_cases h0 : k = 0
    · have t1 : ((k : Int) == 0) = true := beqT (by omega)
      have T2 := Hd (show (Y ++ (⟨#[45]⟩ : ByteArray)) ++ X = Pl.txtK v (k + 1) by rw [← T.out, if_pos h0])
      clear h0
      go_wp2_with fail
      go_round
      case rel => exact ⟨k + 1, hlt, by go_num, by rw [T2.out]⟩
      case measure => simp [intOf]; omega
    · have t1 : ((k : Int) == 0) = false := beqF (by omega)
      have T2 := Hd (show (Y ++ (⟨#[46]⟩ : ByteArray)) ++ X = Pl.txtK v (k + 1) by rw [← T.out, if_neg h0])
      clear h0
      go_wp2_with fail
      go_round
      case rel => exact ⟨k + 1, hlt, by go_num, by rw [T2.out]⟩
      case measure => simp [intOf]; omega
  · have T := Hd (Pl.txt_all (v := v) (k := k) (by omega))
    go_wp2_with fail
    go_ret
    exact ⟨by rw [← T.out]; rfl, B4⟩
end
section
open Go.RowKit
namespace Pl
theorem while_at {α : Type} {p : α → Bool} : ∀ {xs : List α} {k : Nat}, UpTo p xs k → k ≤ xs.length → (∀ h : k < xs.length, p xs[k] = false) → xs.takeWhile p = xs.take k ∧ xs.dropWhile p = xs.drop k
 | [], k, _, hk, _ => by
   have : k = 0 := by simpa using hk
   subst this
   exact ⟨rfl, rfl⟩
 | x :: xs, 0, _, _, hs => by
   have := hs (by simp)
   simp only [List.getElem_cons_zero] at this
   exact ⟨by rw [List.takeWhile_cons_of_neg (by simp [this])]; rfl, by rw [List.dropWhile_cons_of_neg (by simp [this])]; rfl⟩
 | x :: xs, k + 1, h, hk, hs => by
   have h0 := h 0 (by simp) (by omega)
   simp only [List.getElem_cons_zero] at h0
   have ih := while_at (p := p) (xs := xs) (k := k) (fun j hj hjk => by have := h (j + 1) (by simpa using hj) (by omega); simpa using this) (by simpa using hk) (fun h2 => by have := hs (by simpa using h2); simpa using this)
   exact ⟨by rw [List.takeWhile_cons_of_pos (by simp [h0]), ih.1]; rfl, by rw [List.dropWhile_cons_of_pos (by simp [h0]), ih.2]; rfl⟩
theorem mkS_bsl (s : ByteArray) : mkS (bsl s) = s := by simp [mkS, bsl]
theorem mkS_take (s : ByteArray) (k : Nat) : mkS ((bsl s).take k) = s.extract 0 k := by
 rw [← mkS_bsl (s.extract 0 k)]
 congr 1
 show _ = (s.extract 0 k).data.toList
 rw [Lib.extract_from_zero]; rfl
theorem mkS_drop (s : ByteArray) (k : Nat) : mkS ((bsl s).drop k) = s.extract k s.size := by
 rw [← mkS_bsl (s.extract k s.size)]
 congr 1
 show _ = (s.extract k s.size).data.toList
 rw [Lib.extract_to_end]; rfl
end Pl
set_option maxHeartbeats 1000000 in
theorem until_any (s : ByteArray) (x y : Int) (w : World) (hs : s.size ≤ 9223372036854775807) :
 Calls Tryz.prog 123 #[.string s, .int .u8 x, .int .u8 y] w fun e w' => e = .returned (.tuple #[.string (Pl.mkS (Pl.untilA x y (Pl.bsl s))), .string (Pl.mkS (Pl.untilZ x y (Pl.bsl s)))]) ∧ ∃ q, w' = w.drewN q := by
 have fin : ∀ (k : Nat), UpTo (Pl.notE x y) (Pl.bsl s) k → k ≤ s.size → (∀ h : k < s.size, Pl.notE x y s[k] = false) → s.extract 0 k = Pl.mkS (Pl.untilA x y (Pl.bsl s)) ∧ s.extract k s.size = Pl.mkS (Pl.untilZ x y (Pl.bsl s)) := fun k h1 h2 h3 => by
  have h := Pl.while_at h1 (by rw [Pl.bsl_len]; exact h2) (fun h => h3 (by rwa [Pl.bsl_len] at h))
  unfold Pl.untilA Pl.untilZ
  rw [h.1, h.2, Pl.mkS_take, Pl.mkS_drop]
  exact ⟨rfl, rfl⟩
 replace fin := Hd fin
 go_enter Tryz.func123, Tryz.ntmps123
 go_wp2_with fail
 go_loop [8] (fun i => ∃ k : Nat, k ≤ s.size ∧ i = .int .i64 k ∧ Hid (UpTo (Pl.notE x y) (Pl.bsl s) k)) (fun i => s.size - (intOf i).toNat)
 case atStart => exact ⟨0, Nat.zero_le _, rfl, UpTo.zero _ _⟩
 case round =>
  obtain ⟨k, hk, rfl, hu⟩ := hrel
  have k0 : (0 : Int) ≤ (k : Int) := by omega
  have k1 : (k : Int) ≤ (s.size : Int) := by omega
  by_cases hlt : k < s.size
  · have sc := Hd (fun h : Pl.notE x y s[k] = true => hu.out.succ (by rw [Pl.bsl_len]; exact hlt) h)
    have en := Hd (fun h : Pl.notE x y s[k] = false => fin.out k hu.out hk (fun _ => h))
    by_cases h1 : (s[k].toNat : Int) = x
    · have t1 := bneF h1
      have t2 := beqT h1
      obtain ⟨E1, E2⟩ := en.out (by unfold Pl.notE; rw [t2]; rfl)
      have F1 := Hd E1
      have F2 := Hd E2
      clear E1 E2 en sc h1
      go_wp2_with fail
      go_quiet (fail)
      go_wp2_with fail
      go_returns
      exact ⟨by rw [← F1.out, ← F2.out]; rfl, _, rfl⟩
    · by_cases h2 : (s[k].toNat : Int) = y
      · have t1 := bneT h1
        have t2 := beqF h1
        have t3 := bneF h2
        have t4 := beqT h2
        obtain ⟨E1, E2⟩ := en.out (by unfold Pl.notE; rw [t4]; simp)
        have F1 := Hd E1
        have F2 := Hd E2
        clear E1 E2 en sc h1 h2
        go_wp2_with fail
        go_quiet (fail)
        go_wp2_with fail
        go_returns
        exact ⟨by rw [← F1.out, ← F2.out]; rfl, _, rfl⟩
      · have t1 := bneT h1
        have t2 := beqF h1
        have t3 := bneT h2
        have t4 := beqF h2
        have st := Hd (sc.out (by unfold Pl.notE; rw [t2, t4]; rfl))
        clear en sc h1 h2
        go_wp2_with fail
        go_round
        case rel => exact ⟨k + 1, hlt, by go_num, st⟩
        case measure => simp [intOf]; omega
  · obtain ⟨E1, E2⟩ := fin.out k hu.out hk (fun h => absurd h hlt)
    have F1 := Hd E1
    have F2 := Hd E2
    clear E1 E2
    go_wp2_with fail
    go_quiet (fail)
    go_wp2_with fail
    go_returns
    exact ⟨by rw [← F1.out, ← F2.out]; rfl, _, rfl⟩
namespace Pl
theorem valL_app (a b : List UInt8) : valL (a ++ b) = valL a * 10 ^ b.length + valL b := by
 show (a ++ b).foldl _ 0 = _
 rw [List.foldl_append, fold_val]; rfl
theorem valL_take {l : List UInt8} (h : digsB l = true) (k : Nat) : valL (l.take k) ≤ valL l := by
 have h1 := digs_take h k
 have h2 : digsB (l.drop k) = true := by
  unfold digsB at h ⊢
  rw [List.all_eq_true] at h ⊢
  exact fun x hx => h x (List.mem_of_mem_drop hx)
 have b1 := valL_bounds h1
 have b2 := valL_bounds h2
 conv => rhs; rw [← List.take_append_drop k l, valL_app]
 have hp : (1 : Int) ≤ 10 ^ (l.drop k).length := Int.pow_pos (show (0 : Int) < 10 by omega)
 have := Int.mul_le_mul_of_nonneg_left hp b1.1
 omega
theorem numOf_no {l : List UInt8} (h : numB l = false ∨ 19 < l.length ∨ leadB l = true ∨ 1000000000 < valL l) : numOf l = -1 := by
 unfold numOf
 rw [if_neg]
 rintro ⟨h1, h2, h3⟩
 simp only [canonB, Bool.and_eq_true, Bool.or_eq_true, decide_eq_true_eq] at h1
 rcases h with h | h | h | h
 · unfold numB at h; rw [h1.1.1, decide_eq_true h1.1.2] at h; cases h
 · omega
 · simp only [leadB, Bool.and_eq_true, decide_eq_true_eq] at h
   rcases h1.2 with h4 | h4
   · omega
   · rw [h.2] at h4; cases h4
 · omega
theorem numOf_yes {l : List UInt8} (h1 : numB l = true) (h2 : l.length ≤ 19) (h3 : leadB l = false) (h4 : valL l ≤ 1000000000) : numOf l = valL l := by
 unfold numOf
 simp only [numB, Bool.and_eq_true, decide_eq_true_eq] at h1
 rw [if_pos]
 refine ⟨?_, h2, h4⟩
 unfold canonB
 rw [h1.1, decide_eq_true h1.2]
 simp only [leadB, h1.1, Bool.true_and, Bool.and_eq_false_iff, decide_eq_false_iff_not] at h3
 rcases h3 with h3 | h3
 · rw [decide_eq_true (by omega)]; rfl
 · rw [h3]; simp
theorem num_digs {l : List UInt8} (h : numB l = true) : digsB l = true := by
 simp only [numB, Bool.and_eq_true] at h; exact h.1
end Pl
set_option maxHeartbeats 1000000 in
theorem NumberOf_any (s : ByteArray) (w : World) (hs : s.size ≤ 9223372036854775807) :
 Calls Tryz.prog 183 #[.string s, .int .i64 1000000000] w fun e w' => e = .returned (.int .i64 (Pl.numOf (Pl.bsl s))) ∧ w = w' := by
 cases hn : Pl.numB (Pl.bsl s) with
 | false =>
   have E := Hd (Pl.numOf_no (.inl hn))
   go_enter Tryz.func183, Tryz.ntmps183
   go_wp2_with (go_at_call 104; refine (Numeric_any _ _ (by assumption)).mono ?_; rintro e w' ⟨rfl, rfl⟩)
   go_ret
   exact ⟨ret_int E.out.symm, rfl⟩
 | true =>
   by_cases h19 : 19 < s.size
   · have E := Hd (Pl.numOf_no (l := Pl.bsl s) (.inr (.inl (by rw [Pl.bsl_len]; exact h19))))
     go_enter Tryz.func183, Tryz.ntmps183
     go_wp2_with (go_at_call 104; refine (Numeric_any _ _ (by assumption)).mono ?_; rintro e w' ⟨rfl, rfl⟩)
     go_ret
     exact ⟨ret_int E.out.symm, rfl⟩
   · have h0 : 0 < s.size := by
      simp only [Pl.numB, Bool.and_eq_true, Pl.bsl_len] at hn
      exact of_decide_eq_true hn.2
     have HD := Hd (Pl.num_digs hn)
     have YES := Hd (fun h3 h4 => Pl.numOf_yes hn (by rw [Pl.bsl_len]; omega) h3 h4)
     have NOT := Hd (fun h => Pl.numOf_no (l := Pl.bsl s) (.inr (.inr (.inr h))))
     have LEAD := Hd (fun h => Pl.numOf_no (l := Pl.bsl s) (.inr (.inr (.inl h))))
     rcases Pl.lead_cases s h0 with ⟨d1, d2⟩ | ⟨d1, d3, d2⟩ | ⟨d1, d3, d4, d2⟩ | ⟨d1, d3, d4, d2⟩
     · rw [HD.out] at d1; cases d1
     rotate_left 2
     · have E := Hd (LEAD.out d2)
       clear d1 d2 YES NOT LEAD
       go_enter Tryz.func183, Tryz.ntmps183
       go_wp2_with (go_at_call 104; refine (Numeric_any _ _ (by assumption)).mono ?_; rintro e w' ⟨rfl, rfl⟩)
       go_ret
       exact ⟨ret_int E.out.symm, rfl⟩
     all_goals
      have YES := Hd (fun h4 => YES.out d2 h4)
      clear d1 d2 LEAD
      go_enter Tryz.func183, Tryz.ntmps183
      go_wp2_with (go_at_call 104; refine (Numeric_any _ _ (by assumption)).mono ?_; rintro e w' ⟨rfl, rfl⟩)
      go_loop [5, 6] (fun n i => ∃ k : Nat, k ≤ s.size ∧ i = .int .i64 k ∧ n = .int .i64 (Pl.valL ((Pl.bsl s).take k)) ∧ Pl.valL ((Pl.bsl s).take k) ≤ 1000000000) (fun _ i => s.size - (intOf i).toNat)
      case atStart => exact ⟨0, Nat.zero_le _, rfl, rfl, by simp [Pl.valL]⟩
      case round =>
       obtain ⟨k, hk, rfl, rfl, hv⟩ := hrel
       by_cases hlt : k < s.size
       · have hts := Hd (show Pl.valL ((Pl.bsl s).take (k + 1)) = _ by rw [Pl.bsl_take s k hlt, Pl.valL_snoc])
         have hb := (Pl.valL_bounds (Pl.digs_take HD.out k)).1
         have hc := Pl.digs_get HD.out hlt
         have hm := Hd (Pl.valL_take HD.out (k + 1))
         generalize Pl.valL ((Pl.bsl s).take k) = V at *
         by_cases hg : 10 * V + ((s[k].toNat : Int) - 48) ≤ 1000000000
         · have g1 : decide ((1000000000 - ((s[k].toNat : Int) - 48)) / 10 < V) = false := by simp; omega
           have g2 : V ≤ (1000000000 - ((s[k].toNat : Int) - 48)) / 10 := by omega
           have hv2 := Hd (show Pl.valL ((Pl.bsl s).take (k + 1)) ≤ 1000000000 by rw [hts.out]; exact hg)
           go_wp2_with fail
           go_round
           case rel => exact ⟨k + 1, hlt, by go_num, by rw [hts.out], hv2.out⟩
           case measure => simp [intOf]; omega
         · have g2 : (1000000000 - ((s[k].toNat : Int) - 48)) / 10 < V := by omega
           have E := Hd (NOT.out (by have h1 := hm.out; rw [hts.out] at h1; omega))
           go_wp2_with fail
           go_ret
           exact ⟨ret_int E.out.symm, rfl⟩
       · have e : (Pl.bsl s).take k = Pl.bsl s := List.take_of_length_le (by rw [Pl.bsl_len]; omega)
         rw [e] at hv ⊢
         have E := Hd (YES.out hv)
         clear e
         go_wp2_with fail
         go_ret
         exact ⟨ret_int E.out.symm, rfl⟩
end
section
open Go.RowKit
namespace Pl
end Pl
@[go_sem] theorem Tryz.fld0 (x y : Int) (w : World) : (Instr.field 27 (.agg #[.int .i64 x, .int .i64 y]) 0).run Tryz.prog w = .ok (.int .i64 x) w := by kernel_rfl
end
end Go.Proofs.YtolfgcoalihmgaaGreatDoor
