/- Contract: the text of a range, by the program. -/
import Derived.Test.YtolfgcoalihmgaaGreatDoorDp
import Derived.Test.YtolfgcoalihmgaaGreatDoorDh
namespace Go.Proofs.YtolfgcoalihmgaaGreatDoor
open Go.RowKit
namespace Pl
def fmtR (r : List Ivl) : ByteArray := if (rngF r).1 ≠ 0 then mkS [] else mkS (rngT r)
theorem join_len : ∀ l : List Ivl, (∀ x ∈ l, x.Ok) → (Lib.join (l.map ivT) barS).length ≤ 168 * l.length := by
 intro l
 induction l with
 | nil => intro _; decide
 | cons x l ih =>
   intro hx
   have h1 := ivT_len (hx x (by simp))
   have h2 := ih fun y hy => hx y (by simp [hy])
   cases l with
   | nil => simp [Lib.join]; omega
   | cons y l =>
     rw [List.map_cons, List.map_cons, join_cons2]
     rw [List.map_cons] at h2
     have : barS.length = 4 := rfl
     simp only [List.length_append, List.length_cons] at *
     omega
theorem fmt_ok {v : Ver} (h : v.Ok) : fmtV v = mkS (verT v) := by unfold fmtV; rw [vrF_ok h, if_neg (by decide)]
theorem ivT_un {x : Ivl} (h : x.un = true) : (⟨#[62, 61]⟩ : ByteArray) ++ mkS (verT x.lo) = mkS (ivT x) := by
 rw [show (⟨#[62, 61]⟩ : ByteArray) = mkS [62, 61] from rfl, mkS_app]
 unfold ivT
 rw [if_pos h]
 simp
theorem ivT_two {x : Ivl} (h : x.un = false) : ((⟨#[62, 61]⟩ : ByteArray) ++ mkS (verT x.lo)) ++ ((⟨#[32, 60]⟩ : ByteArray) ++ mkS (verT x.hi)) = mkS (ivT x) := by
 rw [show (⟨#[62, 61]⟩ : ByteArray) = mkS [62, 61] from rfl, show (⟨#[32, 60]⟩ : ByteArray) = mkS [32, 60] from rfl, mkS_app, mkS_app, mkS_app]
 unfold ivT
 rw [if_neg (by rw [h]; decide)]
 simp
theorem ver_size {v : Ver} (h : v.Ok) : (mkS (verT v)).size ≤ 80 := by rw [mkS_size]; exact verT_len h
end Pl
theorem Join_bar (L : List (List UInt8)) (n : Nat) (hn : L.length = n) (oa : Option Addr) (c : Nat) (w : World) (hs : Sl w oa n c 1 (strVals (L.map Pl.mkS))) (hne : L ≠ []) (h1 : n ≤ 1048576) (hl : (Lib.join L Pl.barS).length ≤ 1048576) :
 Calls Tryz.prog 55 #[.slice oa n c, .string (⟨#[32, 124, 124, 32]⟩ : ByteArray)] w fun e w' => e = .returned (.string (Pl.mkS (Lib.join L Pl.barS))) ∧ Below w.heap.size w w' := by
 have key : ∀ L : List (List UInt8), (L.map Pl.mkS).map (·.data.toList) = L := fun L => by
  induction L with
  | nil => rfl
  | cons x l ih =>
    rw [List.map_cons, List.map_cons, ih]
    exact congrArg (· :: l) (Pl.bsl_mkS x)
 rcases hs.mem with h0 | ⟨b, off, rfl, hlt, hc⟩
 · exact absurd (by simpa [strVals] using h0) hne
 · have hn2 : (L.map Pl.mkS).length = n := by rw [List.length_map]; exact hn
   have h := Tryz.strings_Join b off c (L.map Pl.mkS) (⟨#[32, 124, 124, 32]⟩ : ByteArray) w (fun j x hx => hc j _ (by unfold strVals; rw [List.getElem?_map, hx]; rfl)) hlt (by omega) (by rw [hn2]; exact hs.hcap) (by rw [key]; show (Lib.join L Pl.barS).length ≤ _; omega)
   rw [hn2, key] at h
   exact h
theorem fmt_step {r : List Pl.Ivl} {k : Nat} (hk : k < r.length) : strVals (((r.take k).map Pl.ivT).map Pl.mkS) ++ [.string (Pl.mkS (Pl.ivT r[k]))] = strVals (((r.take (k + 1)).map Pl.ivT).map Pl.mkS) := by
 rw [← take_snoc (List.getElem?_eq_getElem hk)]
 unfold strVals
 rw [List.map_append, List.map_append, List.map_append]
 rfl
def FmtAt (w : World) (r : List Pl.Ivl) (k : Nat) (v : Value) (wr : World) : Prop := wr.ownsRow (w.heap.size + 2) 9 1 v k (strVals (((r.take k).map Pl.ivT).map Pl.mkS)) ∧ Bk wr (w.heap.size + 1) [.int .i64 0, .int .i64 0] ∧ Below w.heap.size w wr
def RFmt (s : ByteArray) (F : Int × Int) (w : World) (e : Ending) (w' : World) : Prop := e = .returned (.tuple #[.string s, fltV F]) ∧ Below w.heap.size w w'
set_option maxHeartbeats 4000000 in
theorem rngFormat_bad (r : List Pl.Ivl) (a : Option Addr) (c : Nat) (w : World) (h : RIn w r a c) (f1 f2 : Int) (hf : f1 ≠ 0) (e1 : Pl.rngF r = (f1, f2)) :
 Calls Tryz.prog 31 #[.agg #[.slice a r.length c]] w (RFmt (Pl.fmtR r) (Pl.rngF r) w) := by
 have E : Pl.fmtR r = ⟨#[]⟩ := by unfold Pl.fmtR; rw [e1, if_pos hf]; rfl
 rw [E, e1]
 have CB := Hd (fun (W : World) (g1 : RIn W r a c) => rngValidate_any r a c W g1)
 rw [e1] at CB
 simp only [fltV] at CB
 have H := Hd h
 have u1 := bneT hf
 have u2 := beqF hf
 clear h E e1 hf
 go_enter Tryz.func31, Tryz.ntmps31
 have B0 := brl w
 go_wp2_with fail
 refine (CB.out _ (H.out.bl (by go_grown))).mono ?_
 rintro e w1 ⟨rfl, hb⟩
 have B1 := bcm w hb
 have q1 : w.heap.size + 2 ≤ w1.heap.size := qle hb
 replace H := Hd (((H.out.al _).al _).bl hb)
 have X := (((bkn w.heap.size [.slice a r.length c] 33).alloc _)).bw hb
 have F := ((bkn (w.heap.size + 1) [.int .i64 0, .int .i64 0] 27)).bw hb
 clear hb
 have s1 := B1.size
 have ⟨Xc, Xf, Xl⟩ := X
 have ⟨Fc, Ff, Fl⟩ := F
 go_wp2_with fail
 go_region
 go_wp2_with fail
 have FN := ((F.st 0 (.int .i64 f1)).st 1 (.int .i64 f2)).alloc (.cells #[.int .i64 f1, .int .i64 f2] 27)
 obtain ⟨FNc, FNf, FNl⟩ := FN
 refine bodyPost_ret (v := .tuple #[.string ⟨#[]⟩, .agg #[.int .i64 f1, .int .i64 f2]]) (by simp [results, Tryz.results31, go_sem, FNc]) rfl ⟨rfl, by go_grown⟩
set_option maxHeartbeats 4000000 in
theorem rngFormat_nil (r : List Pl.Ivl) (a : Option Addr) (c : Nat) (w : World) (h : RIn w r a c) (e1 : Pl.rngF r = (0, 0)) (h0 : r = []) :
 Calls Tryz.prog 31 #[.agg #[.slice a r.length c]] w (RFmt (Pl.fmtR r) (Pl.rngF r) w) := by
 have E : Pl.fmtR r = ⟨#[60, 48, 46, 48, 46, 48, 45, 48]⟩ := by unfold Pl.fmtR; rw [e1, if_neg (by decide), h0]; rfl
 rw [E, e1]
 have CB := Hd (fun (W : World) (g1 : RIn W r a c) => rngValidate_any r a c W g1)
 rw [e1] at CB
 simp only [fltV] at CB
 have H := Hd h
 have u1 : ((r.length : Int) == 0) = true := by rw [h0]; rfl
 clear h E e1 h0
 go_enter Tryz.func31, Tryz.ntmps31
 have B0 := brl w
 go_wp2_with fail
 refine (CB.out _ (H.out.bl (by go_grown))).mono ?_
 rintro e w1 ⟨rfl, hb⟩
 have B1 := bcm w hb
 have q1 : w.heap.size + 2 ≤ w1.heap.size := qle hb
 replace H := Hd (((H.out.al _).al _).bl hb)
 have X := (((bkn w.heap.size [.slice a r.length c] 33).alloc _)).bw hb
 have F := ((bkn (w.heap.size + 1) [.int .i64 0, .int .i64 0] 27)).bw hb
 clear hb
 have s1 := B1.size
 have ⟨Xc, Xf, Xl⟩ := X
 have ⟨Fc, Ff, Fl⟩ := F
 go_wp2_with fail
 have FN := ((F.st 0 (.int .i64 0)).st 1 (.int .i64 0)).alloc (.cells #[.int .i64 0, .int .i64 0] 27)
 obtain ⟨FNc, FNf, FNl⟩ := FN
 refine bodyPost_ret (v := .tuple #[.string ⟨#[60, 48, 46, 48, 46, 48, 45, 48]⟩, .agg #[.int .i64 0, .int .i64 0]]) (by simp [results, Tryz.results31, go_sem, FNc]) rfl ⟨rfl, by go_grown⟩
set_option maxRecDepth 100000 in
set_option maxHeartbeats 8000000 in
theorem rngFormat_ok (r : List Pl.Ivl) (a : Option Addr) (c : Nat) (w : World) (h : RIn w r a c) (E : Env w) (e1 : Pl.rngF r = (0, 0)) (h0 : r ≠ []) :
 Calls Tryz.prog 31 #[.agg #[.slice a r.length c]] w (RFmt (Pl.fmtR r) (Pl.rngF r) w) := by
 have ET : Pl.fmtR r = Pl.mkS (Lib.join (r.map Pl.ivT) Pl.barS) := by unfold Pl.fmtR; rw [e1, if_neg (by decide)]; unfold Pl.rngT; rw [if_neg h0]
 have hok := (Pl.rng_ok (r := r) (by rw [e1])).2.ok
 have hl12 := (Pl.rng_ok (r := r) (by rw [e1])).1
 have hpos : 0 < r.length := List.length_pos_iff.2 h0
 have CJ := Hd (fun (W : World) (oa : Option Addr) (k : Nat) (hs : Sl W oa r.length k 1 (strVals ((r.map Pl.ivT).map Pl.mkS))) => Join_bar (r.map Pl.ivT) r.length (by simp) oa k W hs (by simpa using h0) (by omega) (by have := Pl.join_len r hok; omega))
 obtain ⟨J, hJ⟩ : ∃ J, Pl.mkS (Lib.join (r.map Pl.ivT) Pl.barS) = J := ⟨_, rfl⟩
 rw [hJ] at CJ ET
 rw [ET, e1]
 have CB := Hd (fun (W : World) (g1 : RIn W r a c) => rngValidate_any r a c W g1)
 rw [e1] at CB
 simp only [fltV] at CB
 have H := Hd h
 have HR := Hd h
 have HE := Hd E
 have OK := Hd hok
 have u1 : ((r.length : Int) == 0) = false := beqF (by omega)
 clear h ET e1 h0 hJ hok E
 go_enter Tryz.func31, Tryz.ntmps31
 have B0 := brl w
 go_wp2_with fail
 refine (CB.out _ (H.out.bl (by go_grown))).mono ?_
 rintro e w1 ⟨rfl, hb⟩
 have B1 := bcm w hb
 have q1 : w.heap.size + 2 ≤ w1.heap.size := qle hb
 replace H := Hd (((H.out.al _).al _).bl hb)
 have X := (((bkn w.heap.size [.slice a r.length c] 33).alloc _)).bw hb
 have F := ((bkn (w.heap.size + 1) [.int .i64 0, .int .i64 0] 27)).bw hb
 clear hb
 have s1 := B1.size
 have ⟨Xc, Xf, Xl⟩ := X
 have ⟨Fc, Ff, Fl⟩ := F
 go_wp2_with fail
 go_loopw [5, 27] (fun v i wr => ∃ (k : Nat), k ≤ r.length ∧ i = .int .i64 k ∧ FmtAt w r k v wr) (fun _ i _ => r.length - (intOf i).toNat)
 case atStart => exact ⟨0, Nat.zero_le _, rfl, World.ownsRow_nil _ _ _ _, F.alloc _, by go_grown⟩
 case round =>
  obtain ⟨k, hk, rfl, hinv⟩ := hrel
  clear F X B0 B1
  obtain ⟨OW, F, B2⟩ := hinv
  obtain ⟨o, c', rfl⟩ := own_slice OW
  have s2 := B2.size
  have sF := F.lt
  by_cases hlt2 : k < r.length
  · obtain ⟨b, off, rfl, hlt, hat⟩ := (HR.out.bl B2).at (by omega)
    obtain ⟨a1, b1, c1, d1, I⟩ := hat k hlt2
    have OX := Hd (OK.out _ (List.getElem_mem hlt2))
    have ST := Hd (fmt_step hlt2)
    clear hat
    obtain ⟨e0, e1, e2, e3, e4, e5, e6, e7, e8, VA, VB⟩ := I
    replace VA := Hd VA
    replace VB := Hd VB
    generalize r[k] = x at *
    have z1 := Pl.ver_size OX.out.lo
    have z2 := Pl.ver_size OX.out.hi
    have CA := Hd (fun (W : World) (h : VIn W x.lo a1 c1) (E : Env W) => Format_any x.lo a1 c1 W h E)
    have CH := Hd (fun (W : World) (h : VIn W x.hi b1 d1) (E : Env W) => Format_any x.hi b1 d1 W h E)
    rw [Pl.fmt_ok OX.out.lo, Pl.vrF_ok OX.out.lo] at CA
    rw [Pl.fmt_ok OX.out.hi, Pl.vrF_ok OX.out.hi] at CH
    simp only [fltV] at CA CH
    have hu : x.un = true ∨ x.un = false := by cases x.un <;> simp
    rcases hu with hu | hu
    · rw [hu] at e8
      have ES := Pl.ivT_un hu
      generalize Pl.mkS (Pl.verT x.lo) = S1 at *
      generalize Pl.mkS (Pl.verT x.hi) = S2 at *
      rw [← ES] at ST
      have k2 : ∀ s t : ByteArray, (s ++ t).size = s.size + t.size := fun s t => ByteArray.size_append
      have k3 : (⟨#[62, 61]⟩ : ByteArray).size = 2 := rfl
      have k4 : (⟨#[32, 60]⟩ : ByteArray).size = 2 := rfl
      have p1 : (S1.size : Int) ≤ 8388608 := by omega
      have p2 : (((⟨#[62, 61]⟩ : ByteArray) ++ S1).size : Int) ≤ 8388608 := by rw [k2, k3]; omega
      have p3 : (S2.size : Int) ≤ 8388608 := by omega
      have p4 : (((⟨#[32, 60]⟩ : ByteArray) ++ S2).size : Int) ≤ 8388608 := by rw [k2, k4]; omega
      clear ES hu k2 k3 k4
      have ⟨Fc, Ff, Fl⟩ := F
      go_wp2_with fail
      refine (CA.out _ (VA.out.bl (by go_grown)) (HE.out.bl (by go_grown))).mono ?_
      rintro e w3 ⟨rfl, hb⟩
      replace OW := ownsRow_below (OW.alloc _) hb nle
      have B3 := bcm w hb
      have q3 : wr.heap.size + 1 ≤ w3.heap.size := qle hb
      replace VA := Hd ((VA.out.al _).bl hb)
      replace VB := Hd ((VB.out.al _).bl hb)
      replace F := ((F.alloc _)).bw hb
      have Y := ((bkn wr.heap.size [.int .i64 x.lo.maj, .int .i64 x.lo.min, .int .i64 x.lo.pat, .slice a1 x.lo.pre.length c1, .int .i64 x.hi.maj, .int .i64 x.hi.min, .int .i64 x.hi.pat, .slice b1 x.hi.pre.length d1, .bool true] 101)).bw hb
      clear hb
      have s3 := B3.size
      clear Fc Ff Fl
      have ⟨Fc, Ff, Fl⟩ := F
      have ⟨Yc, Yf, Yl⟩ := Y
      clear e0 e1 e2 e3 e4 e5 e6 e7 e8
      have OW2 := OW.alloc (.cells #[.int .i64 0, .int .i64 0] 27)
      have hW : (w3.alloc (.cells #[.int .i64 0, .int .i64 0] 27)).heap.size = w3.heap.size + 1 := World.size_alloc _ _
      go_wp2_with (at_builtin; go_loud (refine ap1 (by rfl) (by rfl) Tryz.tStrs (Below.refl (w.heap.size + 2) _) (by rfl) OW2 (m := 1) (c := 1) (C := [.string ((⟨#[62, 61]⟩ : ByteArray) ++ S1)]) (by rw [hW]; rfl) (by rfl) (by rfl) (by omega) (by omega) ?_); intro v6 w6 NEW b6 s6; obtain ⟨o6, c6, rfl⟩ := own_slice NEW; have B6 : Below w.heap.size w w6 := bcall (by go_grown) b6 (by omega); replace F := (F.alloc _).below b6 (by omega); rw [ST.out] at NEW)
      go_roundw
      case rel => exact ⟨k + 1, hlt2, by go_num, NEW, F, B6⟩
      case measure => simp [intOf]; omega
    · rw [hu] at e8
      have ES := Pl.ivT_two hu
      generalize Pl.mkS (Pl.verT x.lo) = S1 at *
      generalize Pl.mkS (Pl.verT x.hi) = S2 at *
      rw [← ES] at ST
      have k2 : ∀ s t : ByteArray, (s ++ t).size = s.size + t.size := fun s t => ByteArray.size_append
      have k3 : (⟨#[62, 61]⟩ : ByteArray).size = 2 := rfl
      have k4 : (⟨#[32, 60]⟩ : ByteArray).size = 2 := rfl
      have p1 : (S1.size : Int) ≤ 8388608 := by omega
      have p2 : (((⟨#[62, 61]⟩ : ByteArray) ++ S1).size : Int) ≤ 8388608 := by rw [k2, k3]; omega
      have p3 : (S2.size : Int) ≤ 8388608 := by omega
      have p4 : (((⟨#[32, 60]⟩ : ByteArray) ++ S2).size : Int) ≤ 8388608 := by rw [k2, k4]; omega
      clear ES hu k2 k3 k4
      have ⟨Fc, Ff, Fl⟩ := F
      go_wp2_with fail
      refine (CA.out _ (VA.out.bl (by go_grown)) (HE.out.bl (by go_grown))).mono ?_
      rintro e w3 ⟨rfl, hb⟩
      replace OW := ownsRow_below (OW.alloc _) hb nle
      have B3 := bcm w hb
      have q3 : wr.heap.size + 1 ≤ w3.heap.size := qle hb
      replace VA := Hd ((VA.out.al _).bl hb)
      replace VB := Hd ((VB.out.al _).bl hb)
      replace F := ((F.alloc _)).bw hb
      have Y := ((bkn wr.heap.size [.int .i64 x.lo.maj, .int .i64 x.lo.min, .int .i64 x.lo.pat, .slice a1 x.lo.pre.length c1, .int .i64 x.hi.maj, .int .i64 x.hi.min, .int .i64 x.hi.pat, .slice b1 x.hi.pre.length d1, .bool false] 101)).bw hb
      clear hb
      have s3 := B3.size
      clear Fc Ff Fl
      have ⟨Fc, Ff, Fl⟩ := F
      have ⟨Yc, Yf, Yl⟩ := Y
      clear e0 e1 e2 e3 e4 e5 e6 e7 e8
      go_wp2_with fail
      refine (CH.out _ (VB.out.bl (by go_grown)) (HE.out.bl (by go_grown))).mono ?_
      rintro e w4 ⟨rfl, hb⟩
      replace OW := ownsRow_below (OW.alloc _) hb nle
      have B4 := bcm w hb
      have q4 : w3.heap.size + 1 ≤ w4.heap.size := qle hb
      replace VA := Hd ((VA.out.al _).bl hb)
      replace VB := Hd ((VB.out.al _).bl hb)
      replace F := ((F.alloc _)).bw hb
      replace Y := ((Y.alloc _)).bw hb
      have Z := ((bkn w3.heap.size [.int .i64 0, .int .i64 0] 27)).bw hb
      clear hb
      have s4 := B4.size
      clear Fc Ff Fl Yc Yf Yl
      have ⟨Fc, Ff, Fl⟩ := F
      have ⟨Yc, Yf, Yl⟩ := Y
      have ⟨Zc, Zf, Zl⟩ := Z
      have OW2 := OW.alloc (.cells #[.int .i64 0, .int .i64 0] 27)
      have hW : (w4.alloc (.cells #[.int .i64 0, .int .i64 0] 27)).heap.size = w4.heap.size + 1 := World.size_alloc _ _
      go_wp2_with (at_builtin; go_loud (refine ap1 (by rfl) (by rfl) Tryz.tStrs (Below.refl (w.heap.size + 2) _) (by rfl) OW2 (m := 1) (c := 1) (C := [.string (((⟨#[62, 61]⟩ : ByteArray) ++ S1) ++ ((⟨#[32, 60]⟩ : ByteArray) ++ S2))]) (by rw [hW]; rfl) (by rfl) (by rfl) (by omega) (by omega) ?_); intro v6 w6 NEW b6 s6; obtain ⟨o6, c6, rfl⟩ := own_slice NEW; have B6 : Below w.heap.size w w6 := bcall (by go_grown) b6 (by omega); replace F := (F.alloc _).below b6 (by omega); rw [ST.out] at NEW)
      go_roundw
      case rel => exact ⟨k + 1, hlt2, by go_num, NEW, F, B6⟩
      case measure => simp [intOf]; omega
  · have hkr : k = r.length := by omega
    subst hkr
    rw [List.take_length] at OW
    have SLW := Hd (Sl.own OW)
    have ⟨Fc, Ff, Fl⟩ := F
    go_wp2_with fail
    refine (CJ.out _ o c' SLW.out).mono ?_
    rintro e w3 ⟨rfl, hb⟩
    have B3 := bcm w hb
    have q3 : wr.heap.size ≤ w3.heap.size := qle hb
    replace F := F.bw hb
    clear hb
    have s3 := B3.size
    clear Fc Ff Fl
    have ⟨Fc, Ff, Fl⟩ := F
    go_wp2_with fail
    have FN := ((F.st 0 (.int .i64 0)).st 1 (.int .i64 0))
    obtain ⟨FNc, FNf, FNl⟩ := FN
    refine bodyPost_ret (v := .tuple #[.string J, .agg #[.int .i64 0, .int .i64 0]]) (by simp [results, Tryz.results31, go_sem, FNc]) rfl ⟨rfl, by go_grown⟩
theorem rngFormat_any (r : List Pl.Ivl) (a : Option Addr) (c : Nat) (w : World) (h : RIn w r a c) (E : Env w) :
 Calls Tryz.prog 31 #[.agg #[.slice a r.length c]] w (RFmt (Pl.fmtR r) (Pl.rngF r) w) := by
 by_cases f1 : (Pl.rngF r).1 = 0
 · by_cases h0 : r = []
   · exact rngFormat_nil r a c w h (Pl.rng_zero f1) h0
   · exact rngFormat_ok r a c w h E (Pl.rng_zero f1) h0
 · exact rngFormat_bad r a c w h _ _ f1 rfl
end Go.Proofs.YtolfgcoalihmgaaGreatDoor
