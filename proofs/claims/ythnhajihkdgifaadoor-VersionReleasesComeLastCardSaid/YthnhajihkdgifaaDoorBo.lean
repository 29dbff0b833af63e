/- Contract: the text of a version, by the reference. -/
import Derived.Test.YthnhajihkdgifaaDoorBn
namespace Go.Proofs.YthnhajihkdgifaaDoor
open Go.RowKit

namespace Pl
/-- The text with the first k identifiers. -/
def txtK (v : Ver) (k : Nat) : ByteArray := mkS (numT v ++ preT ((v.pre.take k).map bsl))
theorem restT_snoc (l : List (List UInt8)) (x : List UInt8) : restT (l ++ [x]) = restT l ++ 46 :: x := by simp [restT]
theorem preT_snoc (l : List (List UInt8)) (x : List UInt8) : preT (l ++ [x]) = preT l ++ (if l = [] then 45 else 46) :: x := by
  cases l with
  | nil => simp [preT, restT]
  | cons y l =>
    rw [if_neg (by simp), List.cons_append, preT, preT, restT_snoc]
    simp
theorem txt_succ {v : Ver} {k : Nat} (hk : k < v.pre.length) : (txtK v k ++ (if k = 0 then (⟨#[45]⟩ : ByteArray) else (⟨#[46]⟩ : ByteArray))) ++ v.pre[k] = txtK v (k + 1) := by
  have e : v.pre[k] = mkS (bsl v.pre[k]) := by simp [mkS, bsl]
  have e2 : (if k = 0 then (⟨#[45]⟩ : ByteArray) else (⟨#[46]⟩ : ByteArray)) = mkS [if k = 0 then 45 else 46] := by split <;> rfl
  rw [e2, e]
  unfold txtK
  rw [mkS_app, mkS_app, List.take_succ_eq_append_getElem hk, List.map_append, List.map_cons, List.map_nil, preT_snoc]
  by_cases h0 : k = 0
  · subst h0; simp
  · rw [if_neg h0, if_neg (by simp; exact ⟨h0, by intro h; rw [h] at hk; simp at hk⟩)]
    simp
theorem txt_zero (v : Ver) : txtK v 0 = mkS (numT v) := by unfold txtK; simp [preT]
theorem txt_all {v : Ver} {k : Nat} (hk : v.pre.length ≤ k) : txtK v k = mkS (verT v) := by unfold txtK; rw [List.take_of_length_le hk]; rfl
theorem restT_take (l : List (List UInt8)) (k : Nat) : (restT (l.take k)).length ≤ (restT l).length := by
  conv => rhs; rw [← List.take_append_drop k l]
  unfold restT
  rw [List.flatMap_append, List.length_append]; omega
theorem preT_take (l : List (List UInt8)) (k : Nat) : (preT (l.take k)).length ≤ (preT l).length := by
  cases l with
  | nil => simp
  | cons x l =>
    cases k with
    | zero => simp [preT]
    | succ k =>
      have := restT_take l k
      rw [List.take_succ_cons, preT, preT, List.length_append, List.length_append]; omega
theorem txt_size {v : Ver} (h : v.Ok) (k : Nat) : (txtK v k).size ≤ 80 := by
  unfold txtK
  rw [mkS_size, List.length_append, List.map_take]
  have h1 := verT_len h
  have h2 := preT_take (v.pre.map bsl) k
  unfold verT at h1
  rw [List.length_append] at h1
  omega
end Pl

set_option maxHeartbeats 2000000 in
theorem VersionText_any (v : Pl.Ver) (a : Option Addr) (c : Nat) (w : World) (h : VIn w v a c) (ok : v.Ok) :
    Calls Tryd.prog 19 #[verV v a c] w fun e w' => e = .returned (.string (Pl.mkS (Pl.verT v))) ∧ Below w.heap.size w w' := by
  have H := Lib.hid h
  have OK := Lib.hid ok
  have m1 := Pl.inT ok.m1
  have m2 := Pl.inT ok.m2
  have m3 := Pl.inT ok.m3
  have s1 := Pl.digS_size ok.m1
  have s2 := Pl.digS_size ok.m2
  have s3 := Pl.digS_size ok.m3
  have hn := ok.n
  have EN := Lib.hid ((Pl.numT_mkS v).trans (Pl.txt_zero v).symm)
  have k1 : ∀ s : ByteArray, (s ++ (⟨#[46]⟩ : ByteArray)).size = s.size + 1 := fun s => ByteArray.size_append
  have k2 : ∀ s t : ByteArray, (s ++ t).size = s.size + t.size := fun s t => ByteArray.size_append
  clear h ok
  obtain ⟨S1, h1⟩ : ∃ S, Pl.mkS (Pl.digS v.maj) = S := ⟨_, rfl⟩
  obtain ⟨S2, h2⟩ : ∃ S, Pl.mkS (Pl.digS v.min) = S := ⟨_, rfl⟩
  obtain ⟨S3, h3⟩ : ∃ S, Pl.mkS (Pl.digS v.pat) = S := ⟨_, rfl⟩
  rw [h1] at s1
  rw [h2] at s2
  rw [h3] at s3
  rw [h1, h2, h3] at EN
  have q1 : (S1.size : Int) ≤ 8388608 := by omega
  have q2 : (S2.size : Int) ≤ 8388608 := by omega
  have q3 : (S3.size : Int) ≤ 8388608 := by omega
  have q4 : ((S1 ++ (⟨#[46]⟩ : ByteArray)).size : Int) ≤ 8388608 := by rw [k1]; omega
  have q5 : (((S1 ++ (⟨#[46]⟩ : ByteArray)) ++ S2).size : Int) ≤ 8388608 := by rw [k2, k1]; omega
  have q6 : ((((S1 ++ (⟨#[46]⟩ : ByteArray)) ++ S2) ++ (⟨#[46]⟩ : ByteArray)).size : Int) ≤ 8388608 := by rw [k1, k2, k1]; omega
  have D : ∀ (n : Int) (S : ByteArray), 0 ≤ n → n ≤ 1000000000 → Pl.mkS (Pl.digS n) = S → ∀ W, Calls Tryd.prog 36 #[.int .i64 n] W fun e w' => e = .returned (.string S) ∧ Below W.heap.size W w' := fun n S g1 g2 g3 W => by
    have := Digits_any n.toNat W (by omega)
    rw [show ((n.toNat : Nat) : Int) = n by omega] at this
    subst g3
    exact this.mono fun e w' ⟨h1, q, h2⟩ => ⟨h1, h2 ▸ below_drewN' (Below.refl _ _) q⟩
  have I1 := Lib.hid (D _ _ m1.1 m1.2 h1)
  have I2 := Lib.hid (D _ _ m2.1 m2.2 h2)
  have I3 := Lib.hid (D _ _ m3.1 m3.2 h3)
  clear h1 h2 h3 k1 k2 D
  go_enter Tryd.func19, Tryd.ntmps19
  go_wp2_with fail
  refine wp_region_ord [0, 1, 4, 5, 9, 10, 2, 3, 6, 7, 8, 11, 12, 13] (by kernel_rfl) (by kernel_rfl) ?_
  repeat (refine wpI_rd rfl rfl ?_; go_big_quiet_step (fail); refine wpQuiet_nil ?_)
  have VB : Blk (w.alloc (.cells #[.int .i64 v.maj, .int .i64 v.min, .int .i64 v.pat, .slice a v.pre.length c] 24)).drew w.heap.size [.int .i64 v.maj, .int .i64 v.min, .int .i64 v.pat, .slice a v.pre.length c] := (Blk.new w [.int .i64 v.maj, .int .i64 v.min, .int .i64 v.pat, .slice a v.pre.length c] 24 rfl).drew
  have B1 : Below w.heap.size w (w.alloc (.cells #[.int .i64 v.maj, .int .i64 v.min, .int .i64 v.pat, .slice a v.pre.length c] 24)).drew := by go_grown
  refine wpI_call (f := 36) (args := #[.int .i64 v.maj]) rfl rfl rfl (by simp [go_sem]) ?_
  refine (I1.out _).mono ?_
  rintro e w2 ⟨rfl, hb2⟩
  refine ⟨_, rfl, hb2, ?_⟩
  have B2 : Below w.heap.size w w2 := bcall B1 hb2 B1.size
  have VB2 := VB.below hb2 VB.lt
  clear hb2 B1 VB
  try simp only [Act.put, List.setIfInBounds_toArray, List.set_cons_zero, List.set_cons_succ]
  repeat (refine wpI_rd rfl rfl ?_; go_big_quiet_step (fail); refine wpQuiet_nil ?_)
  refine wpI_call (f := 36) (args := #[.int .i64 v.min]) rfl rfl rfl (by simp [go_sem]) ?_
  refine (I2.out _).mono ?_
  rintro e w3 ⟨rfl, hb3⟩
  refine ⟨_, rfl, hb3, ?_⟩
  have B3 : Below w.heap.size w w3 := bcall B2 hb3 B2.size
  have VB3 := VB2.below hb3 VB2.lt
  clear hb3 B2 VB2
  try simp only [Act.put, List.setIfInBounds_toArray, List.set_cons_zero, List.set_cons_succ]
  repeat (refine wpI_rd rfl rfl ?_; go_big_quiet_step (fail); refine wpQuiet_nil ?_)
  refine wpI_call (f := 36) (args := #[.int .i64 v.pat]) rfl rfl rfl (by simp [go_sem]) ?_
  refine (I3.out _).mono ?_
  rintro e w4 ⟨rfl, hb4⟩
  refine ⟨_, rfl, hb4, ?_⟩
  have B4 : Below w.heap.size w w4 := bcall B3 hb4 B3.size
  have VB4 := VB3.below hb4 VB3.lt
  clear hb4 B3 VB3
  try simp only [Act.put, List.setIfInBounds_toArray, List.set_cons_zero, List.set_cons_succ]
  repeat (refine wpI_rd rfl rfl ?_; go_big_quiet_step (fail); refine wpQuiet_nil ?_)
  refine wpI_nil ?_
  try simp only [Act.put, List.setIfInBounds_toArray, List.set_cons_zero, List.set_cons_succ]
  have e0 := VB4.c 0 _ rfl
  have e1 := VB4.c 1 _ rfl
  have e2 := VB4.c 2 _ rfl
  have e3 := VB4.c 3 _ rfl
  have e4 := VB4.lt
  rw [EN.out]
  clear q1 q2 q3 q4 q5 q6 I1 I2 I3 EN s1 s2 s3
  go_wp2_with fail
  go_loop [3, 4] (fun s i => ∃ k : Nat, k ≤ v.pre.length ∧ i = .int .i64 k ∧ s = .string (Pl.txtK v k)) (fun _ i => v.pre.length - (intOf i).toNat)
  case atStart => exact ⟨0, Nat.zero_le _, rfl, rfl⟩
  case round =>
    obtain ⟨k, hk, rfl, rfl⟩ := hrel
    have z1 := Pl.txt_size OK.out k
    by_cases hlt : k < v.pre.length
    · obtain ⟨b, off, rfl, hb, hc⟩ := H.out.sl.strAt (by omega)
      have c1 : w4.cell? ⟨b, off + k, none⟩ = some (.string v.pre[k]) := by rw [B4.cell (p := ⟨b, off + k, none⟩) hb]; exact hc k hlt
      have z2 := (Pl.identB_iff.1 (OK.out.i _ (List.getElem_mem hlt))).2.1
      rw [Pl.bsl_len] at z2
      have T := Lib.hid (Pl.txt_succ hlt)
      clear hc
      generalize v.pre[k] = X at *
      generalize Pl.txtK v k = Y at *
      have q1 : (X.size : Int) ≤ 8388608 := by omega
      have q2 : (Y.size : Int) ≤ 8388608 := by omega
      have q3 : ((Y ++ (⟨#[46]⟩ : ByteArray)).size : Int) ≤ 8388608 := by rw [ByteArray.size_append]; have : ((⟨#[46]⟩ : ByteArray)).size = 1 := rfl; omega
      have q4 : ((Y ++ (⟨#[45]⟩ : ByteArray)).size : Int) ≤ 8388608 := by rw [ByteArray.size_append]; have : ((⟨#[45]⟩ : ByteArray)).size = 1 := rfl; omega
      by_cases h0 : k = 0
      · have t1 : ((k : Int) == 0) = true := beqT (by omega)
        have T2 := Lib.hid (show (Y ++ (⟨#[45]⟩ : ByteArray)) ++ X = Pl.txtK v (k + 1) by rw [← T.out, if_pos h0])
        clear h0
        go_wp2_with fail
        go_round
        case rel => exact ⟨k + 1, hlt, by go_num, by rw [T2.out]⟩
        case measure => simp [intOf]; omega
      · have t1 : ((k : Int) == 0) = false := beqF (by omega)
        have T2 := Lib.hid (show (Y ++ (⟨#[46]⟩ : ByteArray)) ++ X = Pl.txtK v (k + 1) by rw [← T.out, if_neg h0])
        clear h0
        go_wp2_with fail
        go_round
        case rel => exact ⟨k + 1, hlt, by go_num, by rw [T2.out]⟩
        case measure => simp [intOf]; omega
    · have T := Lib.hid (Pl.txt_all (v := v) (k := k) (by omega))
      go_wp2_with fail
      go_ret
      exact ⟨by rw [← T.out]; rfl, B4⟩
end Go.Proofs.YthnhajihkdgifaaDoor
