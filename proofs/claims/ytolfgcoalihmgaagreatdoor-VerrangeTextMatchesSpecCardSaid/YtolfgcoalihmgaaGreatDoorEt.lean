/- Contract of the reference: the text of a range. -/
import Derived.Test.YtolfgcoalihmgaaGreatDoorMKy
import Derived.Test.YtolfgcoalihmgaaGreatDoorMWh
import Derived.Test.YtolfgcoalihmgaaGreatDoorMQd
import Derived.Test.YtolfgcoalihmgaaGreatDoorEo
namespace Go.Proofs.YtolfgcoalihmgaaGreatDoor
open Go.RowKit
namespace Pl
theorem join_snoc (s x : List UInt8) : ∀ (l : List (List UInt8)), l ≠ [] → Lib.join (l ++ [x]) s = Lib.join l s ++ s ++ x
 | [], h => absurd rfl h
 | [y], _ => by rw [List.singleton_append, join_cons2]; simp [Lib.join]
 | y :: z :: l, _ => by
   rw [List.cons_append, List.cons_append, join_cons2, ← List.cons_append, join_snoc s x (z :: l) (by simp), join_cons2]
   simp [List.append_assoc]
def txtR (r : List Ivl) (k : Nat) : List UInt8 := Lib.join ((r.take k).map ivT) barS
theorem txtR_succ {r : List Ivl} {k : Nat} (hk : k < r.length) : txtR r (k + 1) = (if 0 < k then txtR r k ++ barS else txtR r k) ++ ivT r[k] := by
 unfold txtR
 rw [List.take_succ_eq_append_getElem hk, List.map_append]
 split
 · rename_i h0
   exact join_snoc _ _ _ (by intro e; have := congrArg List.length e; rw [List.length_map, List.length_take, List.length_nil] at this; omega)
 · have : k = 0 := by omega
   subst this
   simp [Lib.join]
theorem txtR_len {r : List Ivl} (ok : ∀ x ∈ r, x.Ok) : ∀ k, (txtR r k).length ≤ k * 168
 | 0 => by simp [txtR, Lib.join]
 | k + 1 => by
   have ih := txtR_len ok k
   by_cases hk : k < r.length
   · rw [txtR_succ hk]
     have h1 := ivT_len (ok _ (List.getElem_mem hk))
     have h2 : barS.length = 4 := rfl
     split <;> rw [List.length_append] <;> (try rw [List.length_append]) <;> omega
   · have e : txtR r (k + 1) = txtR r k := by
      unfold txtR
      rw [List.take_of_length_le (by omega), List.take_of_length_le (by omega)]
     rw [e]; omega
theorem txtR_pos {r : List Ivl} {k : Nat} (hk : k < r.length) : txtR r (k + 1) ≠ [] := by
 rw [txtR_succ hk]
 intro e
 have := congrArg List.length e
 rw [List.length_append, List.length_nil] at this
 have h : 2 ≤ (ivT r[k]).length := by unfold ivT; simp
 omega
theorem rngT_all {r : List Ivl} (h : r ≠ []) : rngT r = txtR r r.length := by
 unfold rngT txtR
 rw [if_neg h, List.take_length]
end Pl
set_option maxRecDepth 100000 in
set_option maxHeartbeats 8000000 in
theorem RangeText_any (r : List Pl.Ivl) (a : Option Addr) (c : Nat) (w : World) (h : RIn w r a c) (ok : ∀ x ∈ r, x.Ok) (hn : r.length ≤ 12) :
 Calls Tryz.prog 32 #[.agg #[.slice a r.length c]] w fun e w' => e = .returned (.string (Pl.mkS (Pl.rngT r))) ∧ Below w.heap.size w w' := by
 have H := Hd h
 have OK := Hd ok
 clear h ok
 go_enter Tryz.func32, Tryz.ntmps32
 have B0 := brl w
 go_wp2_with fail
 have B1 : Below w.heap.size w (w.alloc (.cells #[.slice a r.length c] 33)) := by go_grown
 have q1 : w.heap.size + 1 ≤ (w.alloc (.cells #[.slice a r.length c] 33)).heap.size := by simp only [World.size_alloc]; omega
 have X := (Bk.new (r := w.heap.size) (cs := [.slice a r.length c]) w 33 (by simp))
 generalize (w.alloc (.cells #[.slice a r.length c] 33)) = w1 at *
 have s1 := B1.size
 have ⟨Xc, Xf, Xl⟩ := X
 clear Xc Xf Xl
 go_loopw [3, 4] (fun s i wr => ∃ k : Nat, k ≤ r.length ∧ i = .int .i64 k ∧ s = .string (Pl.mkS (Pl.txtR r k)) ∧ Bk wr w.heap.size [.slice a r.length c] ∧ Below w.heap.size w wr) (fun _ i _ => r.length - (intOf i).toNat)
 case atStart => exact ⟨0, Nat.zero_le _, rfl, rfl, X, B1⟩
 case round =>
  obtain ⟨k, hk, rfl, rfl, X, B9⟩ := hrel
  clear B1 q1 s1
  have s9 := B9.size
  by_cases hlt2 : k < r.length
  · have t5 : decide ((k : Int) < (r.length : Int)) = true := decT (by omega)
    obtain ⟨bb, off, rfl, hltb, hat⟩ := H.out.at (by omega)
    obtain ⟨a1, b1, c1, d1, I0⟩ := hat k hlt2
    have HI := Hd I0
    have OX := Hd (OK.out _ (List.getElem_mem hlt2))
    have ST := Hd (Pl.txtR_succ hlt2)
    have hz := Pl.txtR_len OK.out k
    have hi2 := Pl.ivT_len OX.out
    clear hat I0
    generalize r[k] = x at *
    obtain ⟨TT, hTT⟩ : ∃ T, Pl.txtR r k = T := ⟨_, rfl⟩
    rw [hTT] at ST hz ⊢
    clear hTT
    obtain ⟨S, hS⟩ : ∃ S, Pl.mkS TT = S := ⟨_, rfl⟩
    have hSs : S.size = TT.length := by rw [← hS, Pl.mkS_size]
    obtain ⟨A, hA⟩ : ∃ A, Pl.mkS (Pl.verT x.lo) = A := ⟨_, rfl⟩
    obtain ⟨D, hD⟩ : ∃ D, Pl.mkS (Pl.verT x.hi) = D := ⟨_, rfl⟩
    have hAs : A.size = (Pl.verT x.lo).length := by rw [← hA, Pl.mkS_size]
    have hDs : D.size = (Pl.verT x.hi).length := by rw [← hD, Pl.mkS_size]
    have hal := Pl.verT_len OX.out.lo
    have hdl := Pl.verT_len OX.out.hi
    have CA := Hd (fun (W : World) (g : VIn W x.lo a1 c1) => VersionText_any x.lo a1 c1 W g OX.out.lo)
    have CD := Hd (fun (W : World) (g : VIn W x.hi b1 d1) => VersionText_any x.hi b1 d1 W g OX.out.hi)
    rw [hA] at CA
    rw [hD] at CD
    rw [hS]
    have z4 : (⟨#[32, 124, 124, 32]⟩ : ByteArray).size = 4 := rfl
    have z2 : (⟨#[62, 61]⟩ : ByteArray).size = 2 := rfl
    have z3 : (⟨#[32, 60]⟩ : ByteArray).size = 2 := rfl
    have m0 : Pl.mkS Pl.barS = (⟨#[32, 124, 124, 32]⟩ : ByteArray) := rfl
    have m1 : Pl.mkS [62, 61] = (⟨#[62, 61]⟩ : ByteArray) := rfl
    have m2 : Pl.mkS [32, 60] = (⟨#[32, 60]⟩ : ByteArray) := rfl
    obtain ⟨e0, e1, e2, e3, e4, e5, e6, e7, e8, VA, VB⟩ := HI.out.below B9 hltb nle
    replace VA := Hd VA
    replace VB := Hd VB
    have ⟨Xc, Xf, Xl⟩ := X
    by_cases h0 : 0 < k
    · have g1 : decide ((k : Int) > 0) = true := decT (by omega)
      have g2 : decide ((0 : Int) < (k : Int)) = true := decT (by omega)
      have g3 : decide (0 < k) = true := decT h0
      cases hu : x.un with
      | true =>
        have p1 : (S.size : Int) ≤ 8388608 := by omega
        have p2 : ((S ++ (⟨#[32, 124, 124, 32]⟩ : ByteArray)).size : Int) ≤ 8388608 := by rw [ByteArray.size_append]; omega
        have p3 : (((S ++ (⟨#[32, 124, 124, 32]⟩ : ByteArray)) ++ (⟨#[62, 61]⟩ : ByteArray)).size : Int) ≤ 8388608 := by simp only [ByteArray.size_append]; omega
        have p4 : ((((S ++ (⟨#[32, 124, 124, 32]⟩ : ByteArray)) ++ (⟨#[62, 61]⟩ : ByteArray)) ++ A).size : Int) ≤ 8388608 := by simp only [ByteArray.size_append]; omega
        have p6 : (A.size : Int) ≤ 8388608 := by omega
        have p7 : (D.size : Int) ≤ 8388608 := by omega
        have FIN := Hd (show ((S ++ (⟨#[32, 124, 124, 32]⟩ : ByteArray)) ++ (⟨#[62, 61]⟩ : ByteArray)) ++ A = Pl.mkS (Pl.txtR r (k + 1)) by rw [ST.out, if_pos h0, Pl.ivT, if_pos hu, ← hS, ← hA, ← m1, ← m0, Pl.mkS_app]; simp only [Pl.mkS_app]; simp [List.append_assoc])
        clear ST hS hA hD m0 m1 m2 z2 z3 z4
        rw [hu] at e8
        go_wp2_with fail
        refine (CA.out _ ((VA.out.al _))).mono ?_
        rintro e w10 ⟨rfl, hb⟩
        have B10 := bcm w hb
        have q10 : wr.heap.size + 1 ≤ w10.heap.size := qle hb
        replace VA := Hd ((VA.out.al _).bl hb)
        replace VB := Hd ((VB.out.al _).bl hb)
        replace X := ((X.alloc _)).bw hb
        have Y := ((bkn wr.heap.size [.int .i64 x.lo.maj, .int .i64 x.lo.min, .int .i64 x.lo.pat, .slice a1 x.lo.pre.length c1, .int .i64 x.hi.maj, .int .i64 x.hi.min, .int .i64 x.hi.pat, .slice b1 x.hi.pre.length d1, .bool true] 101)).bw hb
        clear hb
        have s10 := B10.size
        clear Xc Xf Xl
        have ⟨Xc, Xf, Xl⟩ := X
        have ⟨Yc, Yf, Yl⟩ := Y
        clear e0 e1 e2 e3 e4 e5 e6 e7 e8
        go_wp2_with fail
        go_roundw
        case rel => exact ⟨k + 1, hlt2, by go_num, by rw [← FIN.out], X, B10⟩
        case measure => first | (simp [intOf]; done) | (simp [intOf]; omega)
      | false =>
        have p1 : (S.size : Int) ≤ 8388608 := by omega
        have p2 : ((S ++ (⟨#[32, 124, 124, 32]⟩ : ByteArray)).size : Int) ≤ 8388608 := by rw [ByteArray.size_append]; omega
        have p3 : (((S ++ (⟨#[32, 124, 124, 32]⟩ : ByteArray)) ++ (⟨#[62, 61]⟩ : ByteArray)).size : Int) ≤ 8388608 := by simp only [ByteArray.size_append]; omega
        have p4 : ((((S ++ (⟨#[32, 124, 124, 32]⟩ : ByteArray)) ++ (⟨#[62, 61]⟩ : ByteArray)) ++ A).size : Int) ≤ 8388608 := by simp only [ByteArray.size_append]; omega
        have p5 : (((((S ++ (⟨#[32, 124, 124, 32]⟩ : ByteArray)) ++ (⟨#[62, 61]⟩ : ByteArray)) ++ A) ++ (⟨#[32, 60]⟩ : ByteArray)).size : Int) ≤ 8388608 := by simp only [ByteArray.size_append]; omega
        have p6 : (A.size : Int) ≤ 8388608 := by omega
        have p7 : (D.size : Int) ≤ 8388608 := by omega
        have FIN := Hd (show ((((S ++ (⟨#[32, 124, 124, 32]⟩ : ByteArray)) ++ (⟨#[62, 61]⟩ : ByteArray)) ++ A) ++ (⟨#[32, 60]⟩ : ByteArray)) ++ D = Pl.mkS (Pl.txtR r (k + 1)) by rw [ST.out, if_pos h0, Pl.ivT, if_neg (fun h => by rw [hu] at h; cases h), ← hS, ← hA, ← hD, ← m1, ← m2, ← m0, Pl.mkS_app]; simp only [Pl.mkS_app]; simp [List.append_assoc])
        clear ST hS hA hD m0 m1 m2 z2 z3 z4
        rw [hu] at e8
        go_wp2_with fail
        refine (CA.out _ ((VA.out.al _))).mono ?_
        rintro e w10 ⟨rfl, hb⟩
        have B10 := bcm w hb
        have q10 : wr.heap.size + 1 ≤ w10.heap.size := qle hb
        replace VA := Hd ((VA.out.al _).bl hb)
        replace VB := Hd ((VB.out.al _).bl hb)
        replace X := ((X.alloc _)).bw hb
        have Y := ((bkn wr.heap.size [.int .i64 x.lo.maj, .int .i64 x.lo.min, .int .i64 x.lo.pat, .slice a1 x.lo.pre.length c1, .int .i64 x.hi.maj, .int .i64 x.hi.min, .int .i64 x.hi.pat, .slice b1 x.hi.pre.length d1, .bool false] 101)).bw hb
        clear hb
        have s10 := B10.size
        clear Xc Xf Xl
        have ⟨Xc, Xf, Xl⟩ := X
        have ⟨Yc, Yf, Yl⟩ := Y
        clear e0 e1 e2 e3 e4 e5 e6 e7 e8
        go_wp2_with fail
        refine (CD.out _ (VB.out)).mono ?_
        rintro e w11 ⟨rfl, hb⟩
        have B11 := bcm w hb
        have q11 : w10.heap.size ≤ w11.heap.size := qle hb
        replace VA := Hd (VA.out.bl hb)
        replace VB := Hd (VB.out.bl hb)
        replace X := X.bw hb
        replace Y := Y.bw hb
        clear hb
        have s11 := B11.size
        clear Xc Xf Xl Yc Yf Yl
        have ⟨Xc, Xf, Xl⟩ := X
        have ⟨Yc, Yf, Yl⟩ := Y
        go_wp2_with fail
        go_roundw
        case rel => exact ⟨k + 1, hlt2, by go_num, by rw [← FIN.out], X, B11⟩
        case measure => first | (simp [intOf]; done) | (simp [intOf]; omega)
    · have g1 : decide ((k : Int) > 0) = false := decF (by omega)
      have g2 : decide ((0 : Int) < (k : Int)) = false := decF (by omega)
      have g3 : decide (0 < k) = false := decF h0
      cases hu : x.un with
      | true =>
        have p1 : (S.size : Int) ≤ 8388608 := by omega
        have p3 : ((S ++ (⟨#[62, 61]⟩ : ByteArray)).size : Int) ≤ 8388608 := by simp only [ByteArray.size_append]; omega
        have p4 : (((S ++ (⟨#[62, 61]⟩ : ByteArray)) ++ A).size : Int) ≤ 8388608 := by simp only [ByteArray.size_append]; omega
        have p6 : (A.size : Int) ≤ 8388608 := by omega
        have p7 : (D.size : Int) ≤ 8388608 := by omega
        have FIN := Hd (show (S ++ (⟨#[62, 61]⟩ : ByteArray)) ++ A = Pl.mkS (Pl.txtR r (k + 1)) by rw [ST.out, if_neg h0, Pl.ivT, if_pos hu, ← hS, ← hA, ← m1, Pl.mkS_app]; simp only [Pl.mkS_app]; simp [List.append_assoc])
        clear ST hS hA hD m0 m1 m2 z2 z3 z4
        rw [hu] at e8
        go_wp2_with fail
        refine (CA.out _ ((VA.out.al _))).mono ?_
        rintro e w10 ⟨rfl, hb⟩
        have B10 := bcm w hb
        have q10 : wr.heap.size + 1 ≤ w10.heap.size := qle hb
        replace VA := Hd ((VA.out.al _).bl hb)
        replace VB := Hd ((VB.out.al _).bl hb)
        replace X := ((X.alloc _)).bw hb
        have Y := ((bkn wr.heap.size [.int .i64 x.lo.maj, .int .i64 x.lo.min, .int .i64 x.lo.pat, .slice a1 x.lo.pre.length c1, .int .i64 x.hi.maj, .int .i64 x.hi.min, .int .i64 x.hi.pat, .slice b1 x.hi.pre.length d1, .bool true] 101)).bw hb
        clear hb
        have s10 := B10.size
        clear Xc Xf Xl
        have ⟨Xc, Xf, Xl⟩ := X
        have ⟨Yc, Yf, Yl⟩ := Y
        clear e0 e1 e2 e3 e4 e5 e6 e7 e8
        go_wp2_with fail
        go_roundw
        case rel => exact ⟨k + 1, hlt2, by go_num, by rw [← FIN.out], X, B10⟩
        case measure => first | (simp [intOf]; done) | (simp [intOf]; omega)
      | false =>
        have p1 : (S.size : Int) ≤ 8388608 := by omega
        have p3 : ((S ++ (⟨#[62, 61]⟩ : ByteArray)).size : Int) ≤ 8388608 := by simp only [ByteArray.size_append]; omega
        have p4 : (((S ++ (⟨#[62, 61]⟩ : ByteArray)) ++ A).size : Int) ≤ 8388608 := by simp only [ByteArray.size_append]; omega
        have p5 : ((((S ++ (⟨#[62, 61]⟩ : ByteArray)) ++ A) ++ (⟨#[32, 60]⟩ : ByteArray)).size : Int) ≤ 8388608 := by simp only [ByteArray.size_append]; omega
        have p6 : (A.size : Int) ≤ 8388608 := by omega
        have p7 : (D.size : Int) ≤ 8388608 := by omega
        have FIN := Hd (show (((S ++ (⟨#[62, 61]⟩ : ByteArray)) ++ A) ++ (⟨#[32, 60]⟩ : ByteArray)) ++ D = Pl.mkS (Pl.txtR r (k + 1)) by rw [ST.out, if_neg h0, Pl.ivT, if_neg (fun h => by rw [hu] at h; cases h), ← hS, ← hA, ← hD, ← m1, ← m2, Pl.mkS_app]; simp only [Pl.mkS_app]; simp [List.append_assoc])
        clear ST hS hA hD m0 m1 m2 z2 z3 z4
        rw [hu] at e8
        go_wp2_with fail
        refine (CA.out _ ((VA.out.al _))).mono ?_
        rintro e w10 ⟨rfl, hb⟩
        have B10 := bcm w hb
        have q10 : wr.heap.size + 1 ≤ w10.heap.size := qle hb
        replace VA := Hd ((VA.out.al _).bl hb)
        replace VB := Hd ((VB.out.al _).bl hb)
        replace X := ((X.alloc _)).bw hb
        have Y := ((bkn wr.heap.size [.int .i64 x.lo.maj, .int .i64 x.lo.min, .int .i64 x.lo.pat, .slice a1 x.lo.pre.length c1, .int .i64 x.hi.maj, .int .i64 x.hi.min, .int .i64 x.hi.pat, .slice b1 x.hi.pre.length d1, .bool false] 101)).bw hb
        clear hb
        have s10 := B10.size
        clear Xc Xf Xl
        have ⟨Xc, Xf, Xl⟩ := X
        have ⟨Yc, Yf, Yl⟩ := Y
        clear e0 e1 e2 e3 e4 e5 e6 e7 e8
        go_wp2_with fail
        refine (CD.out _ (VB.out)).mono ?_
        rintro e w11 ⟨rfl, hb⟩
        have B11 := bcm w hb
        have q11 : w10.heap.size ≤ w11.heap.size := qle hb
        replace VA := Hd (VA.out.bl hb)
        replace VB := Hd (VB.out.bl hb)
        replace X := X.bw hb
        replace Y := Y.bw hb
        clear hb
        have s11 := B11.size
        clear Xc Xf Xl Yc Yf Yl
        have ⟨Xc, Xf, Xl⟩ := X
        have ⟨Yc, Yf, Yl⟩ := Y
        go_wp2_with fail
        go_roundw
        case rel => exact ⟨k + 1, hlt2, by go_num, by rw [← FIN.out], X, B11⟩
        case measure => first | (simp [intOf]; done) | (simp [intOf]; omega)
  · have t5 : decide ((k : Int) < (r.length : Int)) = false := decF (by omega)
    have hkl : k = r.length := by omega
    subst hkl
    have ⟨Xc, Xf, Xl⟩ := X
    by_cases hr : r = []
    · have E := Hd (show Pl.mkS (Pl.rngT r) = ⟨#[60, 48, 46, 48, 46, 48, 45, 48]⟩ by unfold Pl.rngT; rw [if_pos hr]; rfl)
      have hS : Pl.mkS (Pl.txtR r r.length) = ⟨#[]⟩ := by subst hr; rfl
      rw [hS]
      have s9 := str_none (X := (⟨#[]⟩ : ByteArray)) (l := []) rfl rfl
      obtain ⟨s10, s11⟩ := s9
      have s12 : ((⟨#[]⟩ : ByteArray).toList == (⟨#[]⟩ : ByteArray).toList) = true := (strB [] []).trans (by decide)
      clear hr hS
      go_wp2_with fail
      go_ret
      exact ⟨by rw [E.out]; rfl, by go_grown⟩
    · have E := Hd (Pl.rngT_all hr)
      have hp : 0 < r.length := List.length_pos_iff.2 hr
      have hne : Pl.txtR r r.length ≠ [] := by have := Pl.txtR_pos (r := r) (k := r.length - 1) (by omega); rwa [show r.length - 1 + 1 = r.length by omega] at this
      rw [← E.out] at hne ⊢
      have s9 := str_some (X := Pl.mkS (Pl.rngT r)) rfl hne
      have s10 := str_ne (S := Pl.mkS (Pl.rngT r)) (l := []) (by rw [Pl.bsl_mkS]; exact hne)
      obtain ⟨S, hS⟩ : ∃ S, Pl.mkS (Pl.rngT r) = S := ⟨_, rfl⟩
      rw [hS] at s9 s10 ⊢
      have HS := Hd hS
      clear hS
      obtain ⟨s11, s12, s13⟩ := s9
      obtain ⟨s14, s15, s16, s17⟩ := s10
      clear E hne hr
      go_wp2_with fail
      go_ret
      exact ⟨by rw [HS.out]; rfl, by go_grown⟩
end Go.Proofs.YtolfgcoalihmgaaGreatDoor
