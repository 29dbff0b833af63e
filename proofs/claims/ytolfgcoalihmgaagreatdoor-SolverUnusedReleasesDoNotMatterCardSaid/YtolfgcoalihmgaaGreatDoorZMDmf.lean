/- Texts joined. -/
import Derived.Test.YtolfgcoalihmgaaGreatDoorZMDo
import Derived.Test.YtolfgcoalihmgaaGreatDoorZMOb
namespace Go.Proofs.YtolfgcoalihmgaaGreatDoor
section
open Go.RowKit
namespace Pl
def fmtR (r : List Ivl) : ByteArray := if (rngF r).1 ≠ 0 then mkS [] else mkS (rngT r)
theorem join_len : ∀ l : List Ivl, (∀ x ∈ l, x.Ok) → (Lib.join (l.map ivT) barS).length ≤ 168 * l.length := by
 intro l
 induction l with
 | nil => intro _; decide
 | cons x l ih =>
   intro hx
   have h1 := ivT_len (hx x (by simp))
   have h2 := ih fun y hy => hx y (by simp [hy])
   cases l with
   | nil => simp [Lib.join]; omega
   | cons y l =>
     rw [List.map_cons, List.map_cons, join_cons2]
     rw [List.map_cons] at h2
     have : barS.length = 4 := rfl
     simp only [List.length_append, List.length_cons] at *
     omega
theorem fmt_ok {v : Ver} (h : v.Ok) : fmtV v = mkS (verT v) := by unfold fmtV; rw [vrF_ok h, if_neg (by decide)]
theorem ivT_un {x : Ivl} (h : x.un = true) : (⟨#[62, 61]⟩ : ByteArray) ++ mkS (verT x.lo) = mkS (ivT x) := by
 rw [show (⟨#[62, 61]⟩ : ByteArray) = mkS [62, 61] from rfl, mkS_app]
 unfold ivT
 rw [if_pos h]
 simp
theorem ivT_two {x : Ivl} (h : x.un = false) : ((⟨#[62, 61]⟩ : ByteArray) ++ mkS (verT x.lo)) ++ ((⟨#[32, 60]⟩ : ByteArray) ++ mkS (verT x.hi)) = mkS (ivT x) := by
 rw [show (⟨#[62, 61]⟩ : ByteArray) = mkS [62, 61] from rfl, show (⟨#[32, 60]⟩ : ByteArray) = mkS [32, 60] from rfl, mkS_app, mkS_app, mkS_app]
 unfold ivT
 rw [if_neg (by rw [h]; decide)]
 simp
theorem ver_size {v : Ver} (h : v.Ok) : (mkS (verT v)).size ≤ 80 := by rw [mkS_size]; exact verT_len h
end Pl
theorem Join_bar (L : List (List UInt8)) (n : Nat) (hn : L.length = n) (oa : Option Addr) (c : Nat) (w : World) (hs : Sl w oa n c 1 (strVals (L.map Pl.mkS))) (hne : L ≠ []) (h1 : n ≤ 1048576) (hl : (Lib.join L Pl.barS).length ≤ 1048576) :
 Calls Tryz.prog 55 #[.slice oa n c, .string (⟨#[32, 124, 124, 32]⟩ : ByteArray)] w fun e w' => e = .returned (.string (Pl.mkS (Lib.join L Pl.barS))) ∧ Below w.heap.size w w' := by
 have key : ∀ L : List (List UInt8), (L.map Pl.mkS).map (·.data.toList) = L := fun L => by
  induction L with
  | nil => rfl
  | cons x l ih =>
    rw [List.map_cons, List.map_cons, ih]
    exact congrArg (· :: l) (Pl.bsl_mkS x)
 rcases hs.mem with h0 | ⟨b, off, rfl, hlt, hc⟩
 · exact absurd (by simpa [strVals] using h0) hne
 · have hn2 : (L.map Pl.mkS).length = n := by rw [List.length_map]; exact hn
   have h := Tryz.strings_Join b off c (L.map Pl.mkS) (⟨#[32, 124, 124, 32]⟩ : ByteArray) w (fun j x hx => hc j _ (by unfold strVals; rw [List.getElem?_map, hx]; rfl)) hlt (by omega) (by rw [hn2]; exact hs.hcap) (by rw [key]; show (Lib.join L Pl.barS).length ≤ _; omega)
   rw [hn2, key] at h
   exact h
theorem fmt_step {r : List Pl.Ivl} {k : Nat} (hk : k < r.length) : strVals (((r.take k).map Pl.ivT).map Pl.mkS) ++ [.string (Pl.mkS (Pl.ivT r[k]))] = strVals (((r.take (k + 1)).map Pl.ivT).map Pl.mkS) := by
 rw [← take_snoc (List.getElem?_eq_getElem hk)]
 unfold strVals
 rw [List.map_append, List.map_append, List.map_append]
 rfl
def FmtAt (w : World) (r : List Pl.Ivl) (k : Nat) (v : Value) (wr : World) : Prop := wr.ownsRow (w.heap.size + 2) 9 1 v k (strVals (((r.take k).map Pl.ivT).map Pl.mkS)) ∧ Bk wr (w.heap.size + 1) [.int .i64 0, .int .i64 0] ∧ Below w.heap.size w wr
def RFmt (s : ByteArray) (F : Int × Int) (w : World) (e : Ending) (w' : World) : Prop := e = .returned (.tuple #[.string s, fltV F]) ∧ Below w.heap.size w w'
set_option maxHeartbeats 4000000 in
theorem rngFormat_bad (r : List Pl.Ivl) (a : Option Addr) (c : Nat) (w : World) (h : RIn w r a c) (f1 f2 : Int) (hf : f1 ≠ 0) (e1 : Pl.rngF r = (f1, f2)) :
 Calls Tryz.prog 31 #[.agg #[.slice a r.length c]] w (RFmt (Pl.fmtR r) (Pl.rngF r) w) := by
 have E : Pl.fmtR r = ⟨#[]⟩ := by unfold Pl.fmtR; rw [e1, if_pos hf]; rfl
 rw [E, e1]
 have CB := Hd (fun (W : World) (g1 : RIn W r a c) => rngValidate_any r a c W g1)
 rw [e1] at CB
 simp only [fltV] at CB
 have H := Hd h
 have u1 := bneT hf
 have u2 := beqF hf
 clear h E e1 hf
 go_enter Tryz.func31, Tryz.ntmps31
 have B0 := brl w
 go_wp2_with fail
 refine (CB.out _ (H.out.bl (by go_grown))).mono ?_
 rintro e w1 ⟨rfl, hb⟩
 have B1 := bcm w hb
 have q1 : w.heap.size + 2 ≤ w1.heap.size := qle hb
 replace H := Hd (((H.out.al _).al _).bl hb)
 have X := (((bkn w.heap.size [.slice a r.length c] 33).alloc _)).bw hb
 have F := ((bkn (w.heap.size + 1) [.int .i64 0, .int .i64 0] 27)).bw hb
 clear hb
 have s1 := B1.size
 have ⟨Xc, Xf, Xl⟩ := X
 have ⟨Fc, Ff, Fl⟩ := F
 go_wp2_with fail
 go_region
 go_wp2_with fail
 have FN := ((F.st 0 (.int .i64 f1)).st 1 (.int .i64 f2)).alloc (.cells #[.int .i64 f1, .int .i64 f2] 27)
 obtain ⟨FNc, FNf, FNl⟩ := FN
 refine bodyPost_ret (v := .tuple #[.string ⟨#[]⟩, .agg #[.int .i64 f1, .int .i64 f2]]) (by simp [results, Tryz.results31, go_sem, FNc]) rfl ⟨rfl, by go_grown⟩
set_option maxHeartbeats 4000000 in
theorem rngFormat_nil (r : List Pl.Ivl) (a : Option Addr) (c : Nat) (w : World) (h : RIn w r a c) (e1 : Pl.rngF r = (0, 0)) (h0 : r = []) :
 Calls Tryz.prog 31 #[.agg #[.slice a r.length c]] w (RFmt (Pl.fmtR r) (Pl.rngF r) w) := by
 have E : Pl.fmtR r = ⟨#[60, 48, 46, 48, 46, 48, 45, 48]⟩ := by unfold Pl.fmtR; rw [e1, if_neg (by decide), h0]; rfl
 rw [E, e1]
 have CB := Hd (fun (W : World) (g1 : RIn W r a c) => rngValidate_any r a c W g1)
 rw [e1] at CB
 simp only [fltV] at CB
 have H := Hd h
 have u1 : ((r.length : Int) == 0) = true := by rw [h0]; rfl
 clear h E e1 h0
 go_enter Tryz.func31, Tryz.ntmps31
 have B0 := brl w
 go_wp2_with fail
 refine (CB.out _ (H.out.bl (by go_grown))).mono ?_
 rintro e w1 ⟨rfl, hb⟩
 have B1 := bcm w hb
 have q1 : w.heap.size + 2 ≤ w1.heap.size := qle hb
 replace H := Hd (((H.out.al _).al _).bl hb)
 have X := (((bkn w.heap.size [.slice a r.length c] 33).alloc _)).bw hb
 have F := ((bkn (w.heap.size + 1) [.int .i64 0, .int .i64 0] 27)).bw hb
 clear hb
 have s1 := B1.size
 have ⟨Xc, Xf, Xl⟩ := X
 have ⟨Fc, Ff, Fl⟩ := F
 go_wp2_with fail
 have FN := ((F.st 0 (.int .i64 0)).st 1 (.int .i64 0)).alloc (.cells #[.int .i64 0, .int .i64 0] 27)
 obtain ⟨FNc, FNf, FNl⟩ := FN
 refine bodyPost_ret (v := .tuple #[.string ⟨#[60, 48, 46, 48, 46, 48, 45, 48]⟩, .agg #[.int .i64 0, .int .i64 0]]) (by simp [results, Tryz.results31, go_sem, FNc]) rfl ⟨rfl, by go_grown⟩
set_option maxRecDepth 100000 in
set_option maxHeartbeats 8000000 in
theorem rngFormat_ok (r : List Pl.Ivl) (a : Option Addr) (c : Nat) (w : World) (h : RIn w r a c) (E : Env w) (e1 : Pl.rngF r = (0, 0)) (h0 : r ≠ []) :
 Calls Tryz.prog 31 #[.agg #[.slice a r.length c]] w (RFmt (Pl.fmtR r) (Pl.rngF r) w) := by
 have ET : Pl.fmtR r = Pl.mkS (Lib.join (r.map Pl.ivT) Pl.barS) := by unfold Pl.fmtR; rw [e1, if_neg (by decide)]; unfold Pl.rngT; rw [if_neg h0]
 have hok := (Pl.rng_ok (r := r) (by rw [e1])).2.ok
 have hl12 := (Pl.rng_ok (r := r) (by rw [e1])).1
 have hpos : 0 < r.length := List.length_pos_iff.2 h0
 have CJ := Hd (fun (W : World) (oa : Option Addr) (k : Nat) (hs : Sl W oa r.length k 1 (strVals ((r.map Pl.ivT).map Pl.mkS))) => Join_bar (r.map Pl.ivT) r.length (by simp) oa k W hs (by simpa using h0) (by omega) (by have := Pl.join_len r hok; omega))
 obtain ⟨J, hJ⟩ : ∃ J, Pl.mkS (Lib.join (r.map Pl.ivT) Pl.barS) = J := ⟨_, rfl⟩
 rw [hJ] at CJ ET
 rw [ET, e1]
 have CB := Hd (fun (W : World) (g1 : RIn W r a c) => rngValidate_any r a c W g1)
 rw [e1] at CB
 simp only [fltV] at CB
 have H := Hd h
 have HR := Hd h
 have HE := Hd E
 have OK := Hd hok
 have u1 : ((r.length : Int) == 0) = false := beqF (by omega)
 clear h ET e1 h0 hJ hok E
 go_enter Tryz.func31, Tryz.ntmps31
 have B0 := brl w
 go_wp2_with fail
 refine (CB.out _ (H.out.bl (by go_grown))).mono ?_
 rintro e w1 ⟨rfl, hb⟩
 have B1 := bcm w hb
 have q1 : w.heap.size + 2 ≤ w1.heap.size := qle hb
 replace H := Hd (((H.out.al _).al _).bl hb)
 have X := (((bkn w.heap.size [.slice a r.length c] 33).alloc _)).bw hb
 have F := ((bkn (w.heap.size + 1) [.int .i64 0, .int .i64 0] 27)).bw hb
 clear hb
 have s1 := B1.size
 have ⟨Xc, Xf, Xl⟩ := X
 have ⟨Fc, Ff, Fl⟩ := F
 go_wp2_with fail
 go_loopw [5, 27] (fun v i wr => ∃ (k : Nat), k ≤ r.length ∧ i = .int .i64 k ∧ FmtAt w r k v wr) (fun _ i _ => r.length - (intOf i).toNat)
 case atStart => exact ⟨0, Nat.zero_le _, rfl, World.ownsRow_nil _ _ _ _, F.alloc _, by go_grown⟩
 case round =>
  obtain ⟨k, hk, rfl, hinv⟩ := hrel
  clear F X B0 B1
  obtain ⟨OW, F, B2⟩ := hinv
  obtain ⟨o, c', rfl⟩ := own_slice OW
  have s2 := B2.size
  have sF := F.lt
  by_cases hlt2 : k < r.length
  · obtain ⟨b, off, rfl, hlt, hat⟩ := (HR.out.bl B2).at (by omega)
    obtain ⟨a1, b1, c1, d1, I⟩ := hat k hlt2
    have OX := Hd (OK.out _ (List.getElem_mem hlt2))
    have ST := Hd (fmt_step hlt2)
    clear hat
    obtain ⟨e0, e1, e2, e3, e4, e5, e6, e7, e8, VA, VB⟩ := I
    replace VA := Hd VA
    replace VB := Hd VB
    generalize r[k] = x at *
    have z1 := Pl.ver_size OX.out.lo
    have z2 := Pl.ver_size OX.out.hi
    have CA := Hd (fun (W : World) (h : VIn W x.lo a1 c1) (E : Env W) => Format_any x.lo a1 c1 W h E)
    have CH := Hd (fun (W : World) (h : VIn W x.hi b1 d1) (E : Env W) => Format_any x.hi b1 d1 W h E)
    rw [Pl.fmt_ok OX.out.lo, Pl.vrF_ok OX.out.lo] at CA
    rw [Pl.fmt_ok OX.out.hi, Pl.vrF_ok OX.out.hi] at CH
    simp only [fltV] at CA CH
    have hu : x.un = true ∨ x.un = false := by cases x.un <;> simp
    rcases hu with hu | hu
    · rw [hu] at e8
      have ES := Pl.ivT_un hu
      generalize Pl.mkS (Pl.verT x.lo) = S1 at *
      generalize Pl.mkS (Pl.verT x.hi) = S2 at *
      rw [← ES] at ST
      have k2 : ∀ s t : ByteArray, (s ++ t).size = s.size + t.size := fun s t => ByteArray.size_append
      have k3 : (⟨#[62, 61]⟩ : ByteArray).size = 2 := rfl
      have k4 : (⟨#[32, 60]⟩ : ByteArray).size = 2 := rfl
      have p1 : (S1.size : Int) ≤ 8388608 := by omega
      have p2 : (((⟨#[62, 61]⟩ : ByteArray) ++ S1).size : Int) ≤ 8388608 := by rw [k2, k3]; omega
      have p3 : (S2.size : Int) ≤ 8388608 := by omega
      have p4 : (((⟨#[32, 60]⟩ : ByteArray) ++ S2).size : Int) ≤ 8388608 := by rw [k2, k4]; omega
      clear ES hu k2 k3 k4
      have ⟨Fc, Ff, Fl⟩ := F
      go_wp2_with fail
      refine (CA.out _ (VA.out.bl (by go_grown)) (HE.out.bl (by go_grown))).mono ?_
      rintro e w3 ⟨rfl, hb⟩
      replace OW := ownsRow_below (OW.alloc _) hb nle
      have B3 := bcm w hb
      have q3 : wr.heap.size + 1 ≤ w3.heap.size := qle hb
      replace VA := Hd ((VA.out.al _).bl hb)
      replace VB := Hd ((VB.out.al _).bl hb)
      replace F := ((F.alloc _)).bw hb
      have Y := ((bkn wr.heap.size [.int .i64 x.lo.maj, .int .i64 x.lo.min, .int .i64 x.lo.pat, .slice a1 x.lo.pre.length c1, .int .i64 x.hi.maj, .int .i64 x.hi.min, .int .i64 x.hi.pat, .slice b1 x.hi.pre.length d1, .bool true] 101)).bw hb
      clear hb
      have s3 := B3.size
      clear Fc Ff Fl
      have ⟨Fc, Ff, Fl⟩ := F
      have ⟨Yc, Yf, Yl⟩ := Y
      clear e0 e1 e2 e3 e4 e5 e6 e7 e8
      have OW2 := OW.alloc (.cells #[.int .i64 0, .int .i64 0] 27)
      have hW : (w3.alloc (.cells #[.int .i64 0, .int .i64 0] 27)).heap.size = w3.heap.size + 1 := World.size_alloc _ _
      go_wp2_with (at_builtin; go_loud (refine ap1 (by rfl) (by rfl) Tryz.tStrs (Below.refl (w.heap.size + 2) _) (by rfl) OW2 (m := 1) (c := 1) (C := [.string ((⟨#[62, 61]⟩ : ByteArray) ++ S1)]) (by rw [hW]; rfl) (by rfl) (by rfl) (by omega) (by omega) ?_); intro v6 w6 NEW b6 s6; obtain ⟨o6, c6, rfl⟩ := own_slice NEW; have B6 : Below w.heap.size w w6 := bcall (by go_grown) b6 (by omega); replace F := (F.alloc _).below b6 (by omega); rw [ST.out] at NEW)
      go_roundw
      case rel => exact ⟨k + 1, hlt2, by go_num, NEW, F, B6⟩
      case measure => simp [intOf]; omega
    · rw [hu] at e8
      have ES := Pl.ivT_two hu
      generalize Pl.mkS (Pl.verT x.lo) = S1 at *
      generalize Pl.mkS (Pl.verT x.hi) = S2 at *
      rw [← ES] at ST
      have k2 : ∀ s t : ByteArray, (s ++ t).size = s.size + t.size := fun s t => ByteArray.size_append
      have k3 : (⟨#[62, 61]⟩ : ByteArray).size = 2 := rfl
      have k4 : (⟨#[32, 60]⟩ : ByteArray).size = 2 := rfl
      have p1 : (S1.size : Int) ≤ 8388608 := by omega
      have p2 : (((⟨#[62, 61]⟩ : ByteArray) ++ S1).size : Int) ≤ 8388608 := by rw [k2, k3]; omega
      have p3 : (S2.size : Int) ≤ 8388608 := by omega
      have p4 : (((⟨#[32, 60]⟩ : ByteArray) ++ S2).size : Int) ≤ 8388608 := by rw [k2, k4]; omega
      clear ES hu k2 k3 k4
      have ⟨Fc, Ff, Fl⟩ := F
      go_wp2_with fail
      refine (CA.out _ (VA.out.bl (by go_grown)) (HE.out.bl (by go_grown))).mono ?_
      rintro e w3 ⟨rfl, hb⟩
      replace OW := ownsRow_below (OW.alloc _) hb nle
      have B3 := bcm w hb
      have q3 : wr.heap.size + 1 ≤ w3.heap.size := qle hb
      replace VA := Hd ((VA.out.al _).bl hb)
      replace VB := Hd ((VB.out.al _).bl hb)
      replace F := ((F.alloc _)).bw hb
      have Y := ((bkn wr.heap.size [.int .i64 x.lo.maj, .int .i64 x.lo.min, .int .i64 x.lo.pat, .slice a1 x.lo.pre.length c1, .int .i64 x.hi.maj, .int .i64 x.hi.min, .int .i64 x.hi.pat, .slice b1 x.hi.pre.length d1, .bool false] 101)).bw hb
      clear hb
      have s3 := B3.size
      clear Fc Ff Fl
      have ⟨Fc, Ff, Fl⟩ := F
      have ⟨Yc, Yf, Yl⟩ := Y
      clear e0 e1 e2 e3 e4 e5 e6 e7 e8
      go_wp2_with fail
      refine (CH.out _ (VB.out.bl (by go_grown)) (HE.out.bl (by go_grown))).mono ?_
      rintro e w4 ⟨rfl, hb⟩
      replace OW := ownsRow_below (OW.alloc _) hb nle
      have B4 := bcm w hb
      have q4 : w3.heap.size + 1 ≤ w4.heap.size := qle hb
      replace VA := Hd ((VA.out.al _).bl hb)
      replace VB := Hd ((VB.out.al _).bl hb)
      replace F := ((F.alloc _)).bw hb
      replace Y := ((Y.alloc _)).bw hb
      have Z := ((bkn w3.heap.size [.int .i64 0, .int .i64 0] 27)).bw hb
      clear hb
      have s4 := B4.size
      clear Fc Ff Fl Yc Yf Yl
      have ⟨Fc, Ff, Fl⟩ := F
      have ⟨Yc, Yf, Yl⟩ := Y
      have ⟨Zc, Zf, Zl⟩ := Z
      have OW2 := OW.alloc (.cells #[.int .i64 0, .int .i64 0] 27)
      have hW : (w4.alloc (.cells #[.int .i64 0, .int .i64 0] 27)).heap.size = w4.heap.size + 1 := World.size_alloc _ _
      go_wp2_with (at_builtin; go_loud (refine ap1 (by rfl) (by rfl) Tryz.tStrs (Below.refl (w.heap.size + 2) _) (by rfl) OW2 (m := 1) (c := 1) (C := [.string (((⟨#[62, 61]⟩ : ByteArray) ++ S1) ++ ((⟨#[32, 60]⟩ : ByteArray) ++ S2))]) (by rw [hW]; rfl) (by rfl) (by rfl) (by omega) (by omega) ?_); intro v6 w6 NEW b6 s6; obtain ⟨o6, c6, rfl⟩ := own_slice NEW; have B6 : Below w.heap.size w w6 := bcall (by go_grown) b6 (by omega); replace F := (F.alloc _).below b6 (by omega); rw [ST.out] at NEW)
      go_roundw
      case rel => exact ⟨k + 1, hlt2, by go_num, NEW, F, B6⟩
      case measure => simp [intOf]; omega
  · have hkr : k = r.length := by omega
    subst hkr
    rw [List.take_length] at OW
    have SLW := Hd (Sl.own OW)
    have ⟨Fc, Ff, Fl⟩ := F
    go_wp2_with fail
    refine (CJ.out _ o c' SLW.out).mono ?_
    rintro e w3 ⟨rfl, hb⟩
    have B3 := bcm w hb
    have q3 : wr.heap.size ≤ w3.heap.size := qle hb
    replace F := F.bw hb
    clear hb
    have s3 := B3.size
    clear Fc Ff Fl
    have ⟨Fc, Ff, Fl⟩ := F
    go_wp2_with fail
    have FN := ((F.st 0 (.int .i64 0)).st 1 (.int .i64 0))
    obtain ⟨FNc, FNf, FNl⟩ := FN
    refine bodyPost_ret (v := .tuple #[.string J, .agg #[.int .i64 0, .int .i64 0]]) (by simp [results, Tryz.results31, go_sem, FNc]) rfl ⟨rfl, by go_grown⟩
theorem rngFormat_any (r : List Pl.Ivl) (a : Option Addr) (c : Nat) (w : World) (h : RIn w r a c) (E : Env w) :
 Calls Tryz.prog 31 #[.agg #[.slice a r.length c]] w (RFmt (Pl.fmtR r) (Pl.rngF r) w) := by
 by_cases f1 : (Pl.rngF r).1 = 0
 · by_cases h0 : r = []
   · exact rngFormat_nil r a c w h (Pl.rng_zero f1) h0
   · exact rngFormat_ok r a c w h E (Pl.rng_zero f1) h0
 · exact rngFormat_bad r a c w h _ _ f1 rfl
end
section
open Go.RowKit
set_option maxRecDepth 100000 in
set_option maxHeartbeats 16000000 in
theorem term_op5 (s : ByteArray) (w : World) (E : Env w) (hs : s.size ≤ 9223372036854775807) (h42 : Pl.bsl s ≠ [42]) (hno : ∀ m (h : m < 7), m < 5 → ¬ Pl.opsL[m] <+: Pl.bsl s) (t : List UInt8) (ht0 : [94] ++ t = Pl.bsl s) : Calls Tryz.prog 62 #[.string s] w (RTerm (Pl.termP (Pl.bsl s)) w) := by
 obtain ⟨V, hV⟩ : ∃ V, Pl.termP (Pl.bsl s) = V := ⟨_, rfl⟩
 rw [hV]
 have HV := Hd (show Pl.tryOps (Pl.bsl s) (Pl.opsL.drop 0) = V by unfold Pl.termP at hV; rwa [if_neg h42] at hV)
 have s0 : (s.toList == [42]) = false := by rw [beq_eq_false_iff_ne, ne_eq, ba_toList]; exact h42
 have HE := Hd E
 have HT := Hd ht0
 have HNO := Hd hno
 have i0 := idxOp0
 have i1 := idxOp1
 have i2 := idxOp2
 have i3 := idxOp3
 have i4 := idxOp4
 have i5 := idxOp5
 clear hV h42 E ht0 hno
 go_enter Tryz.func62, Tryz.ntmps62
 go_wp2_with fail
 go_loop [16] (fun i => ∃ m : Nat, m ≤ 5 ∧ i = .int .i64 (m : Int) ∧ Hid (Pl.tryOps (Pl.bsl s) (Pl.opsL.drop m) = V)) (fun i => 7 - (intOf i).toNat)
 case atStart => exact ⟨0, by decide, rfl, HV⟩
 case round =>
  obtain ⟨m, hj, rfl, hu⟩ := hrel
  clear HV
  match m, hj with
  | 0, _ =>
    have hp : ¬ [62, 61] <+: Pl.bsl s := HNO.out 0 (by decide) (by decide)
    have E := Hd (Pl.try_miss hp hu.out)
    have CC := Hd (fun (W : World) => cutPrefix_miss s (⟨#[62, 61]⟩ : ByteArray) W hp hs (by decide))
    clear hp hu HT HNO
    go_wp2_with fail
    refine (CC.out _).mono ?_
    rintro e w' ⟨rfl, rfl⟩
    go_wp2_with fail
    go_round
    case rel => exact ⟨1, by decide, by go_num, E⟩
    case measure => simp [intOf]
  | 1, _ =>
    have hp : ¬ [60, 61] <+: Pl.bsl s := HNO.out 1 (by decide) (by decide)
    have E := Hd (Pl.try_miss hp hu.out)
    have CC := Hd (fun (W : World) => cutPrefix_miss s (⟨#[60, 61]⟩ : ByteArray) W hp hs (by decide))
    clear hp hu HT HNO
    go_wp2_with fail
    refine (CC.out _).mono ?_
    rintro e w' ⟨rfl, rfl⟩
    go_wp2_with fail
    go_round
    case rel => exact ⟨2, by decide, by go_num, E⟩
    case measure => simp [intOf]
  | 2, _ =>
    have hp : ¬ [62] <+: Pl.bsl s := HNO.out 2 (by decide) (by decide)
    have E := Hd (Pl.try_miss hp hu.out)
    have CC := Hd (fun (W : World) => cutPrefix_miss s (⟨#[62]⟩ : ByteArray) W hp hs (by decide))
    clear hp hu HT HNO
    go_wp2_with fail
    refine (CC.out _).mono ?_
    rintro e w' ⟨rfl, rfl⟩
    go_wp2_with fail
    go_round
    case rel => exact ⟨3, by decide, by go_num, E⟩
    case measure => simp [intOf]
  | 3, _ =>
    have hp : ¬ [60] <+: Pl.bsl s := HNO.out 3 (by decide) (by decide)
    have E := Hd (Pl.try_miss hp hu.out)
    have CC := Hd (fun (W : World) => cutPrefix_miss s (⟨#[60]⟩ : ByteArray) W hp hs (by decide))
    clear hp hu HT HNO
    go_wp2_with fail
    refine (CC.out _).mono ?_
    rintro e w' ⟨rfl, rfl⟩
    go_wp2_with fail
    go_round
    case rel => exact ⟨4, by decide, by go_num, E⟩
    case measure => simp [intOf]
  | 4, _ =>
    have hp : ¬ [61] <+: Pl.bsl s := HNO.out 4 (by decide) (by decide)
    have E := Hd (Pl.try_miss hp hu.out)
    have CC := Hd (fun (W : World) => cutPrefix_miss s (⟨#[61]⟩ : ByteArray) W hp hs (by decide))
    clear hp hu HT HNO
    go_wp2_with fail
    refine (CC.out _).mono ?_
    rintro e w' ⟨rfl, rfl⟩
    go_wp2_with fail
    go_round
    case rel => exact ⟨5, by decide, by go_num, E⟩
    case measure => simp [intOf]
  | 5, _ =>
    have hu2 : Hid (Pl.tryOps (Pl.bsl s) ([94] :: Pl.opsL.drop 6) = V) := Hd hu.out
    clear hu
    · have ht := HT.out
      have TH := Hd (Pl.try_hit ht.symm hu2.out)
      have CC := Hd (fun (W : World) => cutPrefix_hit s (⟨#[94]⟩ : ByteArray) (Pl.mkS t) W (by rw [Pl.bsl_at]; exact ht.symm) hs)
      have hts : (Pl.mkS t).size ≤ 9223372036854775807 := by
       have h1 := congrArg List.length ht
       rw [List.length_append] at h1
       have h2 : (Pl.bsl s).length = s.size := rfl
       have h3 : (Pl.mkS t).size = t.length := rfl
       omega
      have CQ := Hd (fun (W : World) (E : Env W) => Parse_any (Pl.mkS t) W hts E)
      have PC := Pl.par_cases (Pl.mkS t)
      rw [Pl.bsl_at] at PC
      clear ht hu2 hts i0 i1 i2 i3 i4 i5
      have i := idxOp5
      rcases PC with ⟨p1, p2, p3⟩ | ⟨v, p1, okv, p2, p3⟩
      · have EV := Hd (TH.out.1 p1)
        rw [p3] at CQ
        obtain ⟨F, hF⟩ : ∃ F, Pl.parF (Pl.mkS t) = F := ⟨_, rfl⟩
        rw [hF] at CQ p2
        delta RVerF at CQ
        obtain ⟨f1, f2⟩ := F
        simp only [fltV] at CQ
        have u1 := bneT p2
        have u2 := beqF p2
        clear p1 p2 p3 hF TH
        have B0 := brl w
        go_wp2_with fail
        refine (CC.out _).mono ?_
        rintro e w' ⟨rfl, rfl⟩
        go_wp2_with fail
        have HE1 := HE.out.below (B := w.heap.size) (w' := w.alloc (.cells #[.slice none 0 0] 33)) (by go_grown) nle
        refine (CQ.out _ HE1).mono ?_
        rintro e w1 ⟨pa, pc, rfl, VP, hb⟩
        replace VP := Hd VP
        have B1 := bcm w hb
        have q1 : w.heap.size + 1 ≤ w1.heap.size := qle hb
        have R := ((bkn w.heap.size [.slice none 0 0] 33)).bw hb
        clear hb
        have s1 := B1.size
        have ⟨Rc, Rf, Rl⟩ := R
        go_wp2_with fail
        have RN := ((R.st 0 (.slice none 0 0)).alloc (.cells #[.int .i64 Pl.Ver.zero.maj, .int .i64 Pl.Ver.zero.min, .int .i64 Pl.Ver.zero.pat, .slice pa Pl.Ver.zero.pre.length pc] 24)).alloc (.cells #[.int .i64 f1, .int .i64 f2] 27)
        obtain ⟨RNc, RNf, RNl⟩ := RN
        refine bodyPost_ret (v := .tuple #[.agg #[.slice none 0 0], .int .i64 1]) (by simp [results, Tryz.results62, go_sem, RNc]) rfl (RTerm.bad EV.out (by go_grown))
      · have EV := Hd (TH.out.2 v p1)
        rw [p2, p3] at CQ
        delta RVerF at CQ
        simp only [fltV] at CQ
        have OV := Hd okv
        have c62 : ((⟨#[94]⟩ : ByteArray).toList == (⟨#[62]⟩ : ByteArray).toList) = false := (strB [94] [62]).trans (by decide)
        have c6061 : ((⟨#[94]⟩ : ByteArray).toList == (⟨#[60, 61]⟩ : ByteArray).toList) = false := (strB [94] [60, 61]).trans (by decide)
        have c61 : ((⟨#[94]⟩ : ByteArray).toList == (⟨#[61]⟩ : ByteArray).toList) = false := (strB [94] [61]).trans (by decide)
        have c94 : ((⟨#[94]⟩ : ByteArray).toList == (⟨#[94]⟩ : ByteArray).toList) = true := (strB [94] [94]).trans (by decide)
        have c126 : ((⟨#[94]⟩ : ByteArray).toList == (⟨#[126]⟩ : ByteArray).toList) = false := (strB [94] [126]).trans (by decide)
        have c6261 : ((⟨#[94]⟩ : ByteArray).toList == (⟨#[62, 61]⟩ : ByteArray).toList) = false := (strB [94] [62, 61]).trans (by decide)
        have c60 : ((⟨#[94]⟩ : ByteArray).toList == (⟨#[60]⟩ : ByteArray).toList) = false := (strB [94] [60]).trans (by decide)
        clear p1 p2 p3 TH okv
        have EB : Hid (Pl.opR [94] v = if (Pl.vrF (Pl.capV v)).1 ≠ 0 then ([], 10) else (Pl.oneR v (Pl.capV v), 0)) := Hd rfl
        rcases Pl.vrF_cases (Pl.capV v) with ⟨n1, okn⟩ | n1
        · have EV2 := Hd (EV.out.trans (EB.out.trans (if_neg (by rw [n1]; decide))))
          clear EV EB
          have CA := Hd (fun (W : World) (pa : Option Addr) (pc : Nat) => above_cap v pa pc W OV.out)
          have CW := Hd (fun (W : World) (qa : Option Addr) (qc : Nat) (g : VIn W (Pl.capV v) qa qc) => Validate_any (Pl.capV v) qa qc W g)
          rw [n1] at CW
          have OB := Hd okn
          obtain ⟨B0v, hB0⟩ : ∃ b, Pl.capV v = b := ⟨_, rfl⟩
          rw [hB0] at CA CW OB EV2
          simp only [fltV] at CW
          clear hB0 n1 okn
          have B0 := brl w
          go_wp2_with fail
          refine (CC.out _).mono ?_
          rintro e w' ⟨rfl, rfl⟩
          go_wp2_with fail
          have HE1 := HE.out.below (B := w.heap.size) (w' := w.alloc (.cells #[.slice none 0 0] 33)) (by go_grown) nle
          refine (CQ.out _ HE1).mono ?_
          rintro e w1 ⟨pa, pc, rfl, VP, hb⟩
          replace VP := Hd VP
          have B1 := bcm w hb
          have q1 : w.heap.size + 1 ≤ w1.heap.size := qle hb
          have R := ((bkn w.heap.size [.slice none 0 0] 33)).bw hb
          clear hb
          have s1 := B1.size
          have ⟨Rc, Rf, Rl⟩ := R
          go_wp2_with fail
          refine (CA.out _ pa pc).mono ?_
          rintro e w2 ⟨qa, qc, rfl, VB, hb⟩
          replace VB := Hd VB
          have B2 := bcm w hb
          have q2 : w1.heap.size + 3 ≤ w2.heap.size := qle hb
          replace VP := Hd ((((VP.out.al _).al _).al _).bl hb)
          replace R := ((((R.alloc _).alloc _).alloc _)).bw hb
          have V := ((((bkn w1.heap.size [.int .i64 v.maj, .int .i64 v.min, .int .i64 v.pat, .slice pa v.pre.length pc] 24).alloc _).alloc _)).bw hb
          have F := (((bkn (w1.heap.size + 1) [.int .i64 0, .int .i64 0] 27).alloc _)).bw hb
          have B := ((bkn (w1.heap.size + 1 + 1) [.int .i64 v.maj, .int .i64 v.min, .int .i64 v.pat, .slice pa v.pre.length pc] 24)).bw hb
          clear hb
          have s2 := B2.size
          clear Rc Rf Rl
          have ⟨Rc, Rf, Rl⟩ := R
          have ⟨Vc, Vf, Vl⟩ := V
          have ⟨Fc, Ff, Fl⟩ := F
          have ⟨Bc, Bf, Bl⟩ := B
          go_wp2_with fail
          clear Rc Rf Rl Vc Vf Vl Fc Ff Fl Bc Bf Bl
          replace VP := Hd (VP.out.setNS (B.c 0) (by nofun) (.int .i64 B0v.maj))
          replace VB := Hd (VB.out.setNS (B.c 0) (by nofun) (.int .i64 B0v.maj))
          replace R := R.fr (w1.heap.size + 1 + 1) 0 (by omega) (.int .i64 B0v.maj)
          replace V := V.fr (w1.heap.size + 1 + 1) 0 (by omega) (.int .i64 B0v.maj)
          replace F := F.fr (w1.heap.size + 1 + 1) 0 (by omega) (.int .i64 B0v.maj)
          replace B := B.st 0 (.int .i64 B0v.maj)
          simp only [pts] at B
          replace VP := Hd (VP.out.setNS (B.c 1) (by nofun) (.int .i64 B0v.min))
          replace VB := Hd (VB.out.setNS (B.c 1) (by nofun) (.int .i64 B0v.min))
          replace R := R.fr (w1.heap.size + 1 + 1) 1 (by omega) (.int .i64 B0v.min)
          replace V := V.fr (w1.heap.size + 1 + 1) 1 (by omega) (.int .i64 B0v.min)
          replace F := F.fr (w1.heap.size + 1 + 1) 1 (by omega) (.int .i64 B0v.min)
          replace B := B.st 1 (.int .i64 B0v.min)
          simp only [pts] at B
          replace VP := Hd (VP.out.setNS (B.c 2) (by nofun) (.int .i64 B0v.pat))
          replace VB := Hd (VB.out.setNS (B.c 2) (by nofun) (.int .i64 B0v.pat))
          replace R := R.fr (w1.heap.size + 1 + 1) 2 (by omega) (.int .i64 B0v.pat)
          replace V := V.fr (w1.heap.size + 1 + 1) 2 (by omega) (.int .i64 B0v.pat)
          replace F := F.fr (w1.heap.size + 1 + 1) 2 (by omega) (.int .i64 B0v.pat)
          replace B := B.st 2 (.int .i64 B0v.pat)
          simp only [pts] at B
          replace VP := Hd (VP.out.setNS (B.c 3) (by nofun) (.slice qa B0v.pre.length qc))
          replace VB := Hd (VB.out.setNS (B.c 3) (by nofun) (.slice qa B0v.pre.length qc))
          replace R := R.fr (w1.heap.size + 1 + 1) 3 (by omega) (.slice qa B0v.pre.length qc)
          replace V := V.fr (w1.heap.size + 1 + 1) 3 (by omega) (.slice qa B0v.pre.length qc)
          replace F := F.fr (w1.heap.size + 1 + 1) 3 (by omega) (.slice qa B0v.pre.length qc)
          replace B := B.st 3 (.slice qa B0v.pre.length qc)
          simp only [pts] at B
          refine (CW.out _ qa qc VB.out).mono ?_
          rintro e w3 ⟨rfl, hb⟩
          have B3 := bcm w hb
          have q3 : w2.heap.size ≤ w3.heap.size := qle hb
          replace VP := Hd (VP.out.bl hb)
          replace VB := Hd (VB.out.bl hb)
          replace R := R.bw hb
          replace V := V.bw hb
          replace F := F.bw hb
          replace B := B.bw hb
          clear hb
          have s3 := B3.size
          have ⟨Rc, Rf, Rl⟩ := R
          have ⟨Vc, Vf, Vl⟩ := V
          have ⟨Fc, Ff, Fl⟩ := F
          have ⟨Bc, Bf, Bl⟩ := B
          go_wp2_with fail
          clear Rc Rf Rl Vc Vf Vl Fc Ff Fl Bc Bf Bl
          replace VP := Hd (VP.out.setNS (F.c 0) (by nofun) (.int .i64 0))
          replace VB := Hd (VB.out.setNS (F.c 0) (by nofun) (.int .i64 0))
          replace R := R.fr (w1.heap.size + 1) 0 (by omega) (.int .i64 0)
          replace V := V.fr (w1.heap.size + 1) 0 (by omega) (.int .i64 0)
          replace B := B.fr (w1.heap.size + 1) 0 (by omega) (.int .i64 0)
          replace F := F.st 0 (.int .i64 0)
          simp only [pts] at F
          replace VP := Hd (VP.out.setNS (F.c 1) (by nofun) (.int .i64 0))
          replace VB := Hd (VB.out.setNS (F.c 1) (by nofun) (.int .i64 0))
          replace R := R.fr (w1.heap.size + 1) 1 (by omega) (.int .i64 0)
          replace V := V.fr (w1.heap.size + 1) 1 (by omega) (.int .i64 0)
          replace B := B.fr (w1.heap.size + 1) 1 (by omega) (.int .i64 0)
          replace F := F.st 1 (.int .i64 0)
          simp only [pts] at F
          refine (span_any v B0v pa qa pc qc _ VP.out VB.out OV.out OB.out).mono ?_
          rintro e w4 ⟨o5, k5, rfl, A5, hb⟩
          have B4 := bcm w hb
          have q4 : w3.heap.size ≤ w4.heap.size := qle hb
          replace VP := Hd (VP.out.bl hb)
          replace VB := Hd (VB.out.bl hb)
          replace R := R.bw hb
          replace V := V.bw hb
          replace F := F.bw hb
          replace B := B.bw hb
          clear hb
          have s4 := B4.size
          have ⟨Rc, Rf, Rl⟩ := R
          have ⟨Vc, Vf, Vl⟩ := V
          have ⟨Fc, Ff, Fl⟩ := F
          have ⟨Bc, Bf, Bl⟩ := B
          go_wp2_with fail
          have RN := R.st 0 (.slice o5 (Pl.oneR v B0v).length k5)
          obtain ⟨RNc, RNf, RNl⟩ := RN
          refine bodyPost_ret (v := .tuple #[.agg #[.slice o5 (Pl.oneR v B0v).length k5], .int .i64 0]) (by simp [results, Tryz.results62, go_sem, RNc]) rfl (RTerm.ok EV2.out (A5.setBk R (by simp) (j := 0) rfl (by nofun) _) (by go_grown))
        · have EV2 := Hd (EV.out.trans (EB.out.trans (if_pos n1)))
          clear EV EB
          have CA := Hd (fun (W : World) (pa : Option Addr) (pc : Nat) => above_cap v pa pc W OV.out)
          have CW := Hd (fun (W : World) (qa : Option Addr) (qc : Nat) (g : VIn W (Pl.capV v) qa qc) => Validate_any (Pl.capV v) qa qc W g)
          obtain ⟨F, hF⟩ : ∃ F, Pl.vrF (Pl.capV v) = F := ⟨_, rfl⟩
          rw [hF] at CW n1
          obtain ⟨B0v, hB0⟩ : ∃ b, Pl.capV v = b := ⟨_, rfl⟩
          rw [hB0] at CA CW
          obtain ⟨f1, f2⟩ := F
          simp only [fltV] at CW
          have u1 := bneT n1
          have u2 := beqF n1
          clear hB0 hF n1
          have B0 := brl w
          go_wp2_with fail
          refine (CC.out _).mono ?_
          rintro e w' ⟨rfl, rfl⟩
          go_wp2_with fail
          have HE1 := HE.out.below (B := w.heap.size) (w' := w.alloc (.cells #[.slice none 0 0] 33)) (by go_grown) nle
          refine (CQ.out _ HE1).mono ?_
          rintro e w1 ⟨pa, pc, rfl, VP, hb⟩
          replace VP := Hd VP
          have B1 := bcm w hb
          have q1 : w.heap.size + 1 ≤ w1.heap.size := qle hb
          have R := ((bkn w.heap.size [.slice none 0 0] 33)).bw hb
          clear hb
          have s1 := B1.size
          have ⟨Rc, Rf, Rl⟩ := R
          go_wp2_with fail
          refine (CA.out _ pa pc).mono ?_
          rintro e w2 ⟨qa, qc, rfl, VB, hb⟩
          replace VB := Hd VB
          have B2 := bcm w hb
          have q2 : w1.heap.size + 3 ≤ w2.heap.size := qle hb
          replace VP := Hd ((((VP.out.al _).al _).al _).bl hb)
          replace R := ((((R.alloc _).alloc _).alloc _)).bw hb
          have V := ((((bkn w1.heap.size [.int .i64 v.maj, .int .i64 v.min, .int .i64 v.pat, .slice pa v.pre.length pc] 24).alloc _).alloc _)).bw hb
          have F := (((bkn (w1.heap.size + 1) [.int .i64 0, .int .i64 0] 27).alloc _)).bw hb
          have B := ((bkn (w1.heap.size + 1 + 1) [.int .i64 v.maj, .int .i64 v.min, .int .i64 v.pat, .slice pa v.pre.length pc] 24)).bw hb
          clear hb
          have s2 := B2.size
          clear Rc Rf Rl
          have ⟨Rc, Rf, Rl⟩ := R
          have ⟨Vc, Vf, Vl⟩ := V
          have ⟨Fc, Ff, Fl⟩ := F
          have ⟨Bc, Bf, Bl⟩ := B
          go_wp2_with fail
          clear Rc Rf Rl Vc Vf Vl Fc Ff Fl Bc Bf Bl
          replace VP := Hd (VP.out.setNS (B.c 0) (by nofun) (.int .i64 B0v.maj))
          replace VB := Hd (VB.out.setNS (B.c 0) (by nofun) (.int .i64 B0v.maj))
          replace R := R.fr (w1.heap.size + 1 + 1) 0 (by omega) (.int .i64 B0v.maj)
          replace V := V.fr (w1.heap.size + 1 + 1) 0 (by omega) (.int .i64 B0v.maj)
          replace F := F.fr (w1.heap.size + 1 + 1) 0 (by omega) (.int .i64 B0v.maj)
          replace B := B.st 0 (.int .i64 B0v.maj)
          simp only [pts] at B
          replace VP := Hd (VP.out.setNS (B.c 1) (by nofun) (.int .i64 B0v.min))
          replace VB := Hd (VB.out.setNS (B.c 1) (by nofun) (.int .i64 B0v.min))
          replace R := R.fr (w1.heap.size + 1 + 1) 1 (by omega) (.int .i64 B0v.min)
          replace V := V.fr (w1.heap.size + 1 + 1) 1 (by omega) (.int .i64 B0v.min)
          replace F := F.fr (w1.heap.size + 1 + 1) 1 (by omega) (.int .i64 B0v.min)
          replace B := B.st 1 (.int .i64 B0v.min)
          simp only [pts] at B
          replace VP := Hd (VP.out.setNS (B.c 2) (by nofun) (.int .i64 B0v.pat))
          replace VB := Hd (VB.out.setNS (B.c 2) (by nofun) (.int .i64 B0v.pat))
          replace R := R.fr (w1.heap.size + 1 + 1) 2 (by omega) (.int .i64 B0v.pat)
          replace V := V.fr (w1.heap.size + 1 + 1) 2 (by omega) (.int .i64 B0v.pat)
          replace F := F.fr (w1.heap.size + 1 + 1) 2 (by omega) (.int .i64 B0v.pat)
          replace B := B.st 2 (.int .i64 B0v.pat)
          simp only [pts] at B
          replace VP := Hd (VP.out.setNS (B.c 3) (by nofun) (.slice qa B0v.pre.length qc))
          replace VB := Hd (VB.out.setNS (B.c 3) (by nofun) (.slice qa B0v.pre.length qc))
          replace R := R.fr (w1.heap.size + 1 + 1) 3 (by omega) (.slice qa B0v.pre.length qc)
          replace V := V.fr (w1.heap.size + 1 + 1) 3 (by omega) (.slice qa B0v.pre.length qc)
          replace F := F.fr (w1.heap.size + 1 + 1) 3 (by omega) (.slice qa B0v.pre.length qc)
          replace B := B.st 3 (.slice qa B0v.pre.length qc)
          simp only [pts] at B
          refine (CW.out _ qa qc VB.out).mono ?_
          rintro e w3 ⟨rfl, hb⟩
          have B3 := bcm w hb
          have q3 : w2.heap.size ≤ w3.heap.size := qle hb
          replace VP := Hd (VP.out.bl hb)
          replace VB := Hd (VB.out.bl hb)
          replace R := R.bw hb
          replace V := V.bw hb
          replace F := F.bw hb
          replace B := B.bw hb
          clear hb
          have s3 := B3.size
          have ⟨Rc, Rf, Rl⟩ := R
          have ⟨Vc, Vf, Vl⟩ := V
          have ⟨Fc, Ff, Fl⟩ := F
          have ⟨Bc, Bf, Bl⟩ := B
          go_wp2_with fail
          clear Rc Rf Rl Vc Vf Vl Fc Ff Fl Bc Bf Bl
          replace VP := Hd (VP.out.setNS (F.c 0) (by nofun) (.int .i64 f1))
          replace VB := Hd (VB.out.setNS (F.c 0) (by nofun) (.int .i64 f1))
          replace R := R.fr (w1.heap.size + 1) 0 (by omega) (.int .i64 f1)
          replace V := V.fr (w1.heap.size + 1) 0 (by omega) (.int .i64 f1)
          replace B := B.fr (w1.heap.size + 1) 0 (by omega) (.int .i64 f1)
          replace F := F.st 0 (.int .i64 f1)
          simp only [pts] at F
          replace VP := Hd (VP.out.setNS (F.c 1) (by nofun) (.int .i64 f2))
          replace VB := Hd (VB.out.setNS (F.c 1) (by nofun) (.int .i64 f2))
          replace R := R.fr (w1.heap.size + 1) 1 (by omega) (.int .i64 f2)
          replace V := V.fr (w1.heap.size + 1) 1 (by omega) (.int .i64 f2)
          replace B := B.fr (w1.heap.size + 1) 1 (by omega) (.int .i64 f2)
          replace F := F.st 1 (.int .i64 f2)
          simp only [pts] at F
          have RN := R.st 0 (.slice none 0 0)
          obtain ⟨RNc, RNf, RNl⟩ := RN
          refine bodyPost_ret (v := .tuple #[.agg #[.slice none 0 0], .int .i64 10]) (by simp [results, Tryz.results62, go_sem, RNc]) rfl (RTerm.bad EV2.out (by go_grown))
end
end Go.Proofs.YtolfgcoalihmgaaGreatDoor
