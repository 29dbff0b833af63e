/- Texts joined: Ja Ob Qf. -/
import Derived.Test.YtgngehfgcogceaaGreatDoorZMBn
import Derived.Test.YtgngehfgcogceaaGreatDoorZDg
import Derived.Test.YtgngehfgcogceaaGreatDoorZKn
import Derived.Test.YtgngehfgcogceaaGreatDoorZMPo
import Derived.Test.YtgngehfgcogceaaGreatDoorZMKl
import Derived.Test.YtgngehfgcogceaaGreatDoorZDh
import Derived.Test.YtgngehfgcogceaaGreatDoorZMKo
section
/- Contracts: the digest of a version's text (lockfile.seal); the lock file of the closed example (lockfile.Make). -/
namespace Go.Proofs.YtgngehfgcogceaaGreatDoor
open Go.RowKit

set_option maxHeartbeats 2000000 in
theorem seal_any (v : Pl.Ver) (a : Option Addr) (c : Nat) (w : World) (h : VIn w v a c) (E : Env w) (hn : (Pl.fmtV v).size ≤ 4096) :
    Calls Tryz.prog 21 #[verV v a c] w fun e w' => ∃ D : Int, e = .returned (.int .i64 D) ∧ Below w.heap.size w w' := by
  obtain ⟨f1, f2, hf⟩ : ∃ f1 f2, Pl.vrF v = (f1, f2) := ⟨_, _, rfl⟩
  have CF := Lib.hid (fun (W : World) (g1 : VIn W v a c) (g2 : Env W) => Format_any v a c W g1 g2)
  rw [hf] at CF
  simp only [fltV] at CF
  have H := Lib.hid h
  have HE := Lib.hid E
  clear h E hf
  generalize Pl.fmtV v = S at *
  go_enter Tryz.func21, Tryz.ntmps21
  have B0 : Below w.heap.size w w := Below.refl _ _
  go_wp2_with fail
  refine (CF.out _ ((H.out.below (Below.refl _ _ |>.alloc (Nat.le_refl _) _) (Nat.le_refl _))) (HE.out.below (by go_grown) (Nat.le_refl _))).mono ?_
  rintro e w1 ⟨rfl, hb⟩
  have B1 : Below w.heap.size w w1 := bcall (by go_grown) hb (by go_size)
  have q1 : w.heap.size + 1 ≤ w1.heap.size := by have z := hb.size; (try simp only [World.size_alloc] at z); omega
  replace H := Lib.hid ((H.out.below (Below.refl _ _ |>.alloc (Nat.le_refl _) _) (Nat.le_refl _)).below hb (Nat.le_refl _))
  have X := ((Bk.new (r := w.heap.size) (cs := [.int .i64 v.maj, .int .i64 v.min, .int .i64 v.pat, .slice a v.pre.length c]) _ 48 (by simp))).below hb (by go_size)
  clear hb
  have s1 : w.heap.size ≤ w1.heap.size := B1.size
  obtain ⟨X_c, X_f, X_l⟩ := id X
  obtain ⟨cv, w2, r2, bel2, sz2, sl2⟩ := run_s2b (P := Tryz.prog) (src := 9) Tryz.underlying9 Tryz.underlying97 Tryz.underlying5 (w1.alloc (.cells #[.int .i64 f1, .int .i64 f2] 30)) S (by unfold maxLen; omega)
  simp only [World.size_alloc] at sl2
  have B2 : Below w.heap.size w w2 := bcall (show Below w.heap.size w (w1.alloc (.cells #[.int .i64 f1, .int .i64 f2] 30)) from by go_grown) bel2 (by go_size)
  have s2 := B2.size
  clear X_c X_f X_l
  go_wp2_with fail
  refine (Of_ok S.data.toList _ cv w2 (by have h : S.data.toList.length = S.size := rfl; rw [h]; exact sl2) hn).mono ?_
  rintro e w3 ⟨rfl, hb⟩
  have B3 : Below w.heap.size w w3 := bcall B2 hb (by omega)
  have s3 := B3.size
  clear hb r2
  go_wp2_with fail
  go_ret
  exact ⟨_, rfl, by go_grown⟩
def Pl.exV : Pl.Ver := ⟨1, 0, 0, []⟩
def Pl.exU1 : Pl.Uni := [[⟨Pl.exV, []⟩]]
set_option maxRecDepth 100000 in
theorem Tryz.tEnt : ElemT Tryz.prog 33 50 6 64 := ⟨Tryz.underlying33, ⟨_, _, rfl, rfl, rfl, rfl, rfl⟩, by decide, by decide⟩
set_option maxRecDepth 100000 in
set_option maxHeartbeats 4000000 in
theorem make_ex (a b : Option Addr) (c d : Nat) (w : World) (h1 : UIn w Pl.exU1 a c) (h2 : Sl w b 1 d 1 (intVals [0])) (E : Env w) :
    Calls Tryz.prog 7 #[.agg #[.slice a 1 c], .slice b 1 d] w fun e w' => ∃ o m, e = .returned (.tuple #[.slice o 1 m, .agg #[.int .i64 0, .int .i64 0]]) ∧ Below w.heap.size w w' := by
  have CA := Lib.hid (fun (W : World) (g1 : UIn W Pl.exU1 a c) => show Calls Tryz.prog 18 #[.agg #[.slice a 1 c]] W (fun e w' => e = .returned (.agg #[.int .i64 0, .int .i64 0]) ∧ Below W.heap.size W w') from by
    have h := sUni_any Pl.exU1 a c W g1
    rw [show Pl.uniF Pl.exU1 = (0, 0) by decide +kernel] at h
    exact h)
  have CB := Lib.hid (fun (W : World) (g1 : UIn W Pl.exU1 a c) (g3 : Sl W b 1 d 1 (intVals [0])) => show Calls Tryz.prog 19 #[.agg #[.slice a 1 c], .slice b 1 d] W (fun e w' => e = .returned (.agg #[.int .i64 0, .int .i64 0]) ∧ Below W.heap.size W w') from by
    have h := sChos_any Pl.exU1 [0] a b c d W g1 g3
    rw [show Pl.chosF Pl.exU1 [0] = (0, 0) by decide +kernel] at h
    exact h)
  obtain ⟨b1, f1, rfl, hb1, hat1⟩ := Sl.cellsAt (l := [0]) h2 (by decide)
  have y0 := Lib.hid (show w.cell? ⟨b1, f1, none⟩ = some (.int .i64 0) from hat1 0 (by decide))
  obtain ⟨bu, fu, rfl, hbu, hatu⟩ := h1.at (by decide)
  obtain ⟨a5, c5, z0, R5⟩ := hatu 0 (by decide)
  obtain ⟨br, fr, rfl, hbr, hatr⟩ := R5.at (by decide)
  obtain ⟨a3, c3, a4, c4, r0, r1, r2, r3, r4, VI, -⟩ := hatr 0 (by decide)
  have Z0 := Lib.hid (show w.cell? ⟨bu, fu, none⟩ = some (.slice (some ⟨br, fr, none⟩) 1 c5) from z0)
  have R0 := Lib.hid (show w.cell? ⟨br, fr, none⟩ = some (.int .i64 1) from r0)
  have R1 := Lib.hid (show w.cell? ⟨br, fr + 1, none⟩ = some (.int .i64 0) from r1)
  have R2 := Lib.hid (show w.cell? ⟨br, fr + 2, none⟩ = some (.int .i64 0) from r2)
  have R3 := Lib.hid (show w.cell? ⟨br, fr + 3, none⟩ = some (.slice a3 0 c3) from r3)
  have VH := Lib.hid (show VIn w Pl.exV a3 c3 from VI)
  have H := Lib.hid h1
  have L := Lib.hid h2
  have HE := Lib.hid E
  clear h1 h2 E hat1 hatu hatr z0 R5 r0 r1 r2 r3 r4 VI
  go_enter Tryz.func7, Tryz.ntmps7
  have B0 : Below w.heap.size w w := Below.refl _ _
  go_wp2_with fail
  refine (CA.out _ (((H.out.below (Below.refl _ _ |>.alloc (Nat.le_refl _) _) (Nat.le_refl _)).below (Below.refl _ _ |>.alloc (Nat.le_refl _) _) (Nat.le_refl _)))).mono ?_
  rintro e w1 ⟨rfl, hb⟩
  have B1 : Below w.heap.size w w1 := bcall (by go_grown) hb (by go_size)
  have q1 : w.heap.size + 2 ≤ w1.heap.size := by have z := hb.size; (try simp only [World.size_alloc] at z); omega
  replace H := Lib.hid (((H.out.below (Below.refl _ _ |>.alloc (Nat.le_refl _) _) (Nat.le_refl _)).below (Below.refl _ _ |>.alloc (Nat.le_refl _) _) (Nat.le_refl _)).below hb (Nat.le_refl _))
  replace L := Lib.hid (((L.out.below (Below.refl _ _ |>.alloc (Nat.le_refl _) _) (Nat.le_refl _)).below (Below.refl _ _ |>.alloc (Nat.le_refl _) _) (Nat.le_refl _)).below hb (Nat.le_refl _))
  have X := (((Bk.new (r := w.heap.size) (cs := [.slice (some ⟨bu, fu, none⟩) 1 c]) _ 24 (by simp)).alloc _)).below hb (by go_size)
  have R := ((Bk.new (r := w.heap.size + 1) (cs := [.int .i64 0, .int .i64 0]) _ 30 (by simp))).below hb (by go_size)
  clear hb
  have s1 : w.heap.size ≤ w1.heap.size := B1.size
  obtain ⟨X_c, X_f, X_l⟩ := id X
  obtain ⟨R_c, R_f, R_l⟩ := id R
  go_wp2_with fail
  refine (CB.out _ ((H.out.below (Below.refl _ _ |>.alloc (Nat.le_refl _) _) (Nat.le_refl _))) ((L.out.below (Below.refl _ _ |>.alloc (Nat.le_refl _) _) (Nat.le_refl _)))).mono ?_
  rintro e w2 ⟨rfl, hb⟩
  have B2 : Below w.heap.size w w2 := bcall (by go_grown) hb (by go_size)
  have q2 : w1.heap.size + 1 ≤ w2.heap.size := by have z := hb.size; (try simp only [World.size_alloc] at z); omega
  replace H := Lib.hid ((H.out.below (Below.refl _ _ |>.alloc (Nat.le_refl _) _) (Nat.le_refl _)).below hb (Nat.le_refl _))
  replace L := Lib.hid ((L.out.below (Below.refl _ _ |>.alloc (Nat.le_refl _) _) (Nat.le_refl _)).below hb (Nat.le_refl _))
  replace X := ((X.alloc _)).below hb (by go_size)
  replace R := ((R.alloc _)).below hb (by go_size)
  clear hb
  have s2 : w.heap.size ≤ w2.heap.size := B2.size
  clear X_c X_f X_l R_c R_f R_l
  obtain ⟨X_c, X_f, X_l⟩ := id X
  obtain ⟨R_c, R_f, R_l⟩ := id R
  go_wp2_with fail
  clear X_c X_f X_l R_c R_f R_l
  go_loopw [8, 27] (fun v i wr => ∃ k : Nat, k ≤ 1 ∧ i = .int .i64 k ∧ (∃ o m, v = .slice o k m ∧ (k = 0 → o = none ∧ m = 0)) ∧ Bk wr w.heap.size [.slice (some ⟨bu, fu, none⟩) 1 c] ∧ Bk wr (w.heap.size + 1) [.int .i64 0, .int .i64 0] ∧ Below w.heap.size w wr) (fun _ i _ => 1 - (intOf i).toNat)
  case atStart => exact ⟨0, Nat.zero_le _, rfl, ⟨none, 0, rfl, fun _ => ⟨rfl, rfl⟩⟩, X.alloc _, R.alloc _, by go_grown⟩
  case round =>
    clear X R
    obtain ⟨k, hk, rfl, ⟨o, m, rfl, hz⟩, X, R, B9⟩ := hrel
    have s9 := B9.size
    obtain ⟨X_c, X_f, X_l⟩ := id X
    obtain ⟨R_c, R_f, R_l⟩ := id R
    by_cases h0 : k = 0
    · subst h0
      obtain ⟨rfl, rfl⟩ := hz rfl
      have y1 := (B9.cell (p := ⟨b1, f1, none⟩) hb1).trans y0.out
      have z1 := (B9.cell (p := ⟨bu, fu, none⟩) hbu).trans Z0.out
      have q0 := (B9.cell (p := ⟨br, fr, none⟩) hbr).trans R0.out
      have q1 := (B9.cell (p := ⟨br, fr + 1, none⟩) hbr).trans R1.out
      have q2 := (B9.cell (p := ⟨br, fr + 2, none⟩) hbr).trans R2.out
      have q3 := (B9.cell (p := ⟨br, fr + 3, none⟩) hbr).trans R3.out
      have hw1 : b1 < wr.heap.size := by omega
      have hw2 : bu < wr.heap.size := by omega
      have hw3 : br < wr.heap.size := by omega
      go_wp2_with fail
      refine (verCopy_any Pl.exV a3 c3 _ (VH.out.below B9 (Nat.le_refl _)) (by decide)).mono ?_
      rintro e w4 ⟨o4, c4', rfl, own4, hb⟩
      have B4 : Below w.heap.size w w4 := bcall B9 hb (by omega)
      have V4 : VIn w4 Pl.exV o4 c4' := VIn.own rfl own4 (fun s hs => by cases hs)
      have X4 := X.below hb X.lt
      have R4 := R.below hb R.lt
      have V4h := Lib.hid V4
      have s4 := B4.size
      clear hb own4 V4 X_c X_f X_l R_c R_f R_l y1 z1 q0 q1 q2 q3 hw1 hw2 hw3
      obtain ⟨X_c, X_f, X_l⟩ := id X4
      obtain ⟨R_c, R_f, R_l⟩ := id R4
      unfold verV
      rw [show Pl.exV.maj = 1 from rfl, show Pl.exV.min = 0 from rfl, show Pl.exV.pat = 0 from rfl, show Pl.exV.pre.length = 0 from rfl]
      go_wp2_with fail
      have VB := Bk.new (r := w4.heap.size) (cs := [.int .i64 1, .int .i64 0, .int .i64 0, .slice o4 0 c4']) w4 48 rfl
      have X5 := X4.alloc (.cells #[.int .i64 1, .int .i64 0, .int .i64 0, .slice o4 0 c4'] 48)
      have R5 := R4.alloc (.cells #[.int .i64 1, .int .i64 0, .int .i64 0, .slice o4 0 c4'] 48)
      have B5 : Below w.heap.size w (w4.alloc (.cells #[.int .i64 1, .int .i64 0, .int .i64 0, .slice o4 0 c4'] 48)) := by go_grown
      have V5 := Lib.hid (V4h.out.below (Below.refl _ _ |>.alloc (Nat.le_refl _) (.cells #[.int .i64 1, .int .i64 0, .int .i64 0, .slice o4 0 c4'] 48)) (Nat.le_refl _))
      clear X_c X_f X_l R_c R_f R_l
      generalize w4.alloc (.cells #[.int .i64 1, .int .i64 0, .int .i64 0, .slice o4 0 c4'] 48) = v5 at *
      obtain ⟨VB_c, VB_f, VB_l⟩ := id VB
      refine wp_region_ord [0, 1, 2, 3, 4, 5, 6, 7, 8] (by kernel_rfl) (by kernel_rfl) ?_
      have VD := VB.drew
      replace X5 := X5.drew
      replace R5 := R5.drew
      replace B5 := B5.drew
      replace V5 := Lib.hid (V5.out.below (Below.refl _ _).drew (Nat.le_refl _))
      clear VB VB_c VB_f VB_l
      generalize v5.drew = w5 at *
      obtain ⟨VB_c, VB_f, VB_l⟩ := id VD
      have s5 := B5.size
      repeat (refine wpI_rd rfl rfl ?_; go_big_quiet_step (fail); refine wpQuiet_nil ?_)
      try simp only [Act.put, List.setIfInBounds_toArray, List.set_cons_zero, List.set_cons_succ]
      refine wpI_call (f := 21) rfl rfl rfl (by simp [go_sem]; rfl) ?_
      refine (seal_any Pl.exV o4 c4' w5 V5.out (HE.out.below B5 (Nat.le_refl _)) (by decide +kernel)).mono ?_
      rintro e w6 ⟨D, rfl, hb⟩
      refine ⟨_, rfl, hb, ?_⟩
      have B6 : Below w.heap.size w w6 := bcall B5 hb (by omega)
      have X6 := X5.below hb X5.lt
      have R6 := R5.below hb R5.lt
      have s6 := B6.size
      clear hb VD VB_c VB_f VB_l
      try simp only [Act.put, List.setIfInBounds_toArray, List.set_cons_zero, List.set_cons_succ]
      repeat (refine wpI_rd rfl rfl ?_; go_big_quiet_step (fail); refine wpQuiet_nil ?_)
      try simp only [Act.put, List.setIfInBounds_toArray, List.set_cons_zero, List.set_cons_succ]
      refine wpI_add rfl rfl rfl (u := .slice (some ⟨w6.heap.size, 0, none⟩) 1 1) (w' := w6.alloc (.cells #[.int .i64 0, .int .i64 1, .int .i64 0, .int .i64 0, .slice o4 0 c4', .int .i64 D] 50)) (by simp [go_sem]) (Below.ext ((Below.refl _ _).alloc (Nat.le_refl _) _)) ?_
      try simp only [Act.put, List.setIfInBounds_toArray, List.set_cons_zero, List.set_cons_succ]
      refine wpI_ap rfl rfl rfl Tryz.tEnt (Below.refl (w6.heap.size + 1) _) rfl (World.ownsRow_nil _ _ _ _) (m := 1) (news := [.int .i64 0, .int .i64 1, .int .i64 0, .int .i64 0, .slice o4 0 c4', .int .i64 D]) (Src.ofSlice _ Tryz.tEnt.ht ⟨w6.heap.size, 0, none⟩ 1 1 _ rfl (fun j u hu => by rw [addr_add]; simp [hu]) (List.all_eq_true.1 rfl)) (by omega) (by simp) ?_
      intro v7 w7 own7 G7 h7
      obtain ⟨o7, c7, rfl⟩ := own_slice own7
      have G7' : Below w6.heap.size w6 w7 := bcall ((Below.refl _ _).alloc (Nat.le_refl _) _) G7 (by omega)
      have X7 := X6.below G7' X6.lt
      have R7 := R6.below G7' R6.lt
      have B7 : Below w.heap.size w w7 := bcall B6 G7' (by omega)
      try simp only [Act.put, List.setIfInBounds_toArray, List.set_cons_zero, List.set_cons_succ]
      repeat (refine wpI_rd rfl rfl ?_; go_big_quiet_step (fail); refine wpQuiet_nil ?_)
      try simp only [Act.put, List.setIfInBounds_toArray, List.set_cons_zero, List.set_cons_succ]
      refine wpI_nil ?_
      try simp only [Act.put, List.setIfInBounds_toArray, List.set_cons_zero, List.set_cons_succ]
      go_wp2_with fail
      go_roundw
      case rel => exact ⟨1, Nat.le_refl _, by go_num, ⟨o7, c7, rfl, fun h => by cases h⟩, X7, R7, B7⟩
      case measure => simp [intOf]
    · obtain rfl : k = 1 := by omega
      go_wp2_with fail
      have RN := (R.set (k := 0) (by simp) (.int .i64 0)).set (k := 1) (by simp) (.int .i64 0)
      obtain ⟨RN_c, RN_f, RN_l⟩ := RN
      refine bodyPost_ret (v := .tuple #[.slice o 1 m, .agg #[.int .i64 0, .int .i64 0]]) (by simp [results, Tryz.results7, go_sem, RN_c]) rfl ⟨o, m, rfl, by go_grown⟩
end Go.Proofs.YtgngehfgcogceaaGreatDoor

end
section
/- Lists of whatever elements in rows of one's own: appending, storing elsewhere. -/
namespace Go.Proofs.YtgngehfgcogceaaGreatDoor
open Go.RowKit

/-- What a kind of elements must bear: w, which blocks it leans on, the element, its cells. -/
structure Clo {α : Type} (sz : Nat) (P : World → (Nat → Prop) → α → List Value → Prop) : Prop where
  len : ∀ {w Q x cs}, P w Q x cs → cs.length = sz
  one : ∀ {w Q x cs}, P w Q x cs → ∀ u ∈ cs, u.oneCell' = true
  mono : ∀ {w} {Q R : Nat → Prop} {x cs}, P w Q x cs → (∀ b, Q b → b < w.heap.size → R b) → P w R x cs
  grown : ∀ {w w'} {Q : Nat → Prop} {x cs} {row : Option Nat}, P w Q x cs → w.grownBy w' row → (∀ b, Q b → some b ≠ row) → P w' Q x cs
theorem grown_of_below {w w' : World} {B : Nat} (hb : Below B w w') (hB : w.heap.size ≤ B) : w.grownBy w' none := ⟨hb.os, hb.tape, hb.output, hb.size, fun k hk _ => hb.block k (Nat.lt_of_lt_of_le hk hB)⟩
theorem grown_setCell (w : World) (b i : Nat) (v : Value) : w.grownBy (w.setCell ⟨b, i, none⟩ v) (some b) := ⟨rfl, rfl, rfl, by simp [World.setCell], fun k _ hk => Below.heap_setCell _ _ _ _ (fun e => hk (by simp [e]))⟩
theorem Clo.below {α : Type} {sz : Nat} {P : World → (Nat → Prop) → α → List Value → Prop} (C : Clo sz P) {w w' : World} {Q : Nat → Prop} {x : α} {cs : List Value} (h : P w Q x cs) {B : Nat} (hb : Below B w w') (hB : w.heap.size ≤ B) : P w' Q x cs := C.grown h (grown_of_below hb hB) (fun _ _ e => by cases e)
theorem Sl.grown {w w' : World} {a : Option Addr} {n c sz : Nat} {cs : List Value} {row : Option Nat} (h : Sl w a n c sz cs) (hg : w.grownBy w' row) (_ : 0 < sz) (hq : SlQ (fun b => some b ≠ row) a n) : Sl w' a n c sz cs := by
  refine ⟨h.hl, h.hcap, h.hmax, ?_⟩
  rcases h.mem with h0 | ⟨b, off, rfl, hlt, hc⟩
  · exact .inl h0
  · rcases hq with h0 | ⟨b2, off2, e, hb⟩
    · left
      have := h.hl
      rw [h0, Nat.zero_mul] at this
      exact List.length_eq_zero_iff.1 this
    · cases e
      exact .inr ⟨b, off, rfl, Nat.lt_of_lt_of_le hlt hg.size, fun j u hu => (World.cell?_of_block (hg.block b hlt (fun e => hb e))).trans (hc j u hu)⟩
theorem Sl.at {w : World} {a : Option Addr} {n c sz : Nat} {cs : List Value} (h : Sl w a n c sz cs) : n * sz = 0 ∨ ∃ b off, a = some ⟨b, off, none⟩ ∧ b < w.heap.size := by
  rcases h.mem with h0 | ⟨b, off, e, hlt, _⟩
  · left; rw [← h.hl, h0]; rfl
  · exact .inr ⟨b, off, e, hlt⟩
theorem SlQ.lt {w : World} {a : Option Addr} {n c sz : Nat} {cs : List Value} {Q : Nat → Prop} (hq : SlQ Q a n) (h : Sl w a n c sz cs) (hsz : 0 < sz) : SlQ (fun b => Q b ∧ b < w.heap.size) a n := by
  rcases hq with h0 | ⟨b, off, rfl, hb⟩
  · exact .inl h0
  · rcases h.at with h0 | ⟨b2, off2, e, hlt⟩
    · left; exact (Nat.mul_eq_zero.1 h0).resolve_right (by omega)
    · cases e; exact .inr ⟨b, off, rfl, hb, hlt⟩
/-- A list of such elements lies in memory, in blocks of this kind. -/
structure LQ {α : Type} (sz : Nat) (P : World → (Nat → Prop) → α → List Value → Prop) (w : World) (Q : Nat → Prop) (xs : List α) (a : Option Addr) (c : Nat) : Prop where
  mem : ∃ cs, Sl w a xs.length c sz cs ∧ Elems (P w Q) sz xs cs
  at' : SlQ Q a xs.length
theorem LQ.grown {α : Type} {sz : Nat} {P : World → (Nat → Prop) → α → List Value → Prop} {w w' : World} {Q : Nat → Prop} {xs : List α} {a : Option Addr} {c : Nat} {row : Option Nat} (h : LQ sz P w Q xs a c) (C : Clo sz P) (hsz : 0 < sz) (hg : w.grownBy w' row) (hQ : ∀ b, Q b → some b ≠ row) : LQ sz P w' Q xs a c := by
  obtain ⟨cs, h1, h2⟩ := h.mem
  exact ⟨⟨cs, h1.grown hg hsz (h.at'.mono hQ), h2.mono fun _ _ k => C.grown k hg hQ⟩, h.at'⟩
theorem LQ.mono {α : Type} {sz : Nat} {P : World → (Nat → Prop) → α → List Value → Prop} {w : World} {Q R : Nat → Prop} {xs : List α} {a : Option Addr} {c : Nat} (h : LQ sz P w Q xs a c) (C : Clo sz P) (hsz : 0 < sz) (hQ : ∀ b, Q b → b < w.heap.size → R b) : LQ sz P w R xs a c := by
  obtain ⟨cs, h1, h2⟩ := h.mem
  exact ⟨⟨cs, h1, h2.mono fun _ _ k => C.mono k hQ⟩, (h.at'.lt h1 hsz).mono fun b hb => hQ b hb.1 hb.2⟩
theorem LQ.below {α : Type} {sz : Nat} {P : World → (Nat → Prop) → α → List Value → Prop} {w w' : World} {Q : Nat → Prop} {xs : List α} {a : Option Addr} {c : Nat} (h : LQ sz P w Q xs a c) (C : Clo sz P) (hsz : 0 < sz) {B : Nat} (hb : Below B w w') (hB : w.heap.size ≤ B) : LQ sz P w' Q xs a c := h.grown C hsz (grown_of_below hb hB) (fun _ _ e => by cases e)
theorem LQ.len {α : Type} {sz : Nat} {P : World → (Nat → Prop) → α → List Value → Prop} {w : World} {Q : Nat → Prop} {xs : List α} {a : Option Addr} {c : Nat} (h : LQ sz P w Q xs a c) : xs.length ≤ 9223372036854775807 := by
  obtain ⟨cs, h1, _⟩ := h.mem
  exact h1.len
theorem LQ.pos {α : Type} {sz : Nat} {P : World → (Nat → Prop) → α → List Value → Prop} {w : World} {Q : Nat → Prop} {xs : List α} {a : Option Addr} {c : Nat} (h : LQ sz P w Q xs a c) (hsz : 0 < sz) (h0 : 0 < xs.length) :
    ∃ b off, a = some ⟨b, off, none⟩ ∧ b < w.heap.size ∧ ∀ k (hk : k < xs.length), ∃ es, P w Q xs[k] es ∧ ∀ j u, es[j]? = some u → w.cell? ⟨b, off + k * sz + j, none⟩ = some u := by
  obtain ⟨cs, h1, h2⟩ := h.mem
  exact Sl.pos h1 h2 hsz h0
/-- A slice of such a list, as a cell. -/
def cellL {α : Type} (sz : Nat) (P : World → (Nat → Prop) → α → List Value → Prop) (w : World) (Q : Nat → Prop) (xs : List α) (cs : List Value) : Prop := ∃ a c, cs = [.slice a xs.length c] ∧ LQ sz P w Q xs a c
theorem Clo.cell {α : Type} {sz : Nat} {P : World → (Nat → Prop) → α → List Value → Prop} (C : Clo sz P) (hsz : 0 < sz) : Clo 1 (cellL sz P) where
  len h := by obtain ⟨a, c, rfl, _⟩ := h; rfl
  one h := by
    obtain ⟨a, c, rfl, _⟩ := h
    intro u hu
    rw [List.mem_singleton.1 hu]; rfl
  mono h hQ := by obtain ⟨a, c, e, g⟩ := h; exact ⟨a, c, e, g.mono C hsz hQ⟩
  grown h hg hQ := by obtain ⟨a, c, e, g⟩ := h; exact ⟨a, c, e, g.grown C hsz hg hQ⟩

theorem ownsRow_grown {w w' : World} {base : Nat} {e : TypeId} {size : Nat} {v : Value} {n : Nat} {xs : List Value} {row : Option Nat} (h : w.ownsRow base e size v n xs) (hg : w.grownBy w' row) (hne : ∀ g, row = some g → v.ownBlock ≠ some g) : w'.ownsRow base e size v n xs := by
  refine ⟨h.1, ?_⟩
  rcases h.2 with hn | ⟨g, cap, cur, rfl, hbg, hgg, rest⟩
  · exact .inl hn
  · have hlt := (Array.getElem?_eq_some_iff.1 hgg).1
    exact .inr ⟨g, cap, cur, rfl, hbg, (hg.block g hlt (fun e => hne g e.symm rfl)).trans hgg, rest⟩
/-- A list of such elements in a row of one's own from B on; what it leans on lies in blocks of the kind R, and not in the row. -/
structure GOwn {α : Type} (e : TypeId) (sz : Nat) (P : World → (Nat → Prop) → α → List Value → Prop) (w : World) (B : Nat) (R : Nat → Prop) (xs : List α) (v : Value) (n : Nat) : Prop where
  mem : ∃ cs, w.ownsRow B e sz v n cs ∧ Elems (P w (fun b => R b ∧ some b ≠ v.ownBlock)) sz xs cs
  len : xs.length = n
section
variable {α : Type} {e : TypeId} {sz : Nat} {P : World → (Nat → Prop) → α → List Value → Prop} {w w' : World} {B : Nat} {R : Nat → Prop} {xs : List α} {v : Value} {n : Nat}
theorem GOwn.nil (w : World) (B : Nat) (R : Nat → Prop) : GOwn e sz P w B R ([] : List α) (.slice none 0 0) 0 := ⟨⟨[], World.ownsRow_nil _ _ _ _, Elems.nil⟩, rfl⟩
theorem GOwn.grown (h : GOwn e sz P w B R xs v n) (C : Clo sz P) {row : Option Nat} (hg : w.grownBy w' row) (hne : ∀ g, row = some g → v.ownBlock ≠ some g) (hR : ∀ b, R b → some b ≠ row) : GOwn e sz P w' B R xs v n := by
  obtain ⟨cs, h1, h2⟩ := h.mem
  exact ⟨⟨cs, ownsRow_grown h1 hg hne, h2.mono fun _ _ k => C.grown k hg fun b hb => hR b hb.1⟩, h.len⟩
theorem GOwn.below (h : GOwn e sz P w B R xs v n) (C : Clo sz P) {D : Nat} (hb : Below D w w') (hD : w.heap.size ≤ D) : GOwn e sz P w' B R xs v n := h.grown C (grown_of_below hb hD) (fun _ e => by cases e) (fun _ _ e => by cases e)
theorem GOwn.alloc (h : GOwn e sz P w B R xs v n) (C : Clo sz P) (o : Obj) : GOwn e sz P (w.alloc o) B R xs v n := h.below C ((Below.refl _ _).alloc (Nat.le_refl _) _) (Nat.le_refl _)
theorem GOwn.drew (h : GOwn e sz P w B R xs v n) (C : Clo sz P) : GOwn e sz P w.drew B R xs v n := h.below C (Below.refl _ _).drew (Nat.le_refl _)
theorem GOwn.lt (h : GOwn e sz P w B R xs v n) : ∀ g, v.ownBlock = some g → B ≤ g ∧ g < w.heap.size := fun g hg => by
  obtain ⟨cs, h1, _⟩ := h.mem
  exact h1.lt g hg
theorem GOwn.far (h : GOwn e sz P w B R xs v n) (C : Clo sz P) {b i : Nat} (hb : b < B) (hR : ¬ R b) (u : Value) : GOwn e sz P (w.setCell ⟨b, i, none⟩ u) B R xs v n := h.grown C (grown_setCell w b i u) (fun g e k => by injection e with e; subst e; have := (h.lt _ k).1; omega) (fun g hg e => by injection e with e; subst e; exact hR hg)
theorem GOwn.slice (h : GOwn e sz P w B R xs v n) : ∃ oa c, v = .slice oa n c := by
  obtain ⟨cs, h1, _⟩ := h.mem
  exact own_slice h1
theorem GOwn.lq {a : Option Addr} {c : Nat} (h : GOwn e sz P w B R xs (.slice a n c) n) (C : Clo sz P) (hsz : 0 < sz) {Q : Nat → Prop} (hR : ∀ b, R b → b < w.heap.size → Q b) (hB : ∀ b, B ≤ b → b < w.heap.size → Q b) : LQ sz P w Q xs a c := by
  obtain ⟨cs, h1, h2⟩ := h.mem
  have h3 := Sl.own h1
  rw [← h.len] at h3
  refine ⟨⟨cs, h3, h2.mono fun _ _ k => C.mono k fun b hb => hR b hb.1⟩, ?_⟩
  rcases h3.mem with h0 | ⟨b, off, rfl, hlt, _⟩
  · left
    have := h3.hl
    rw [h0, List.length_nil] at this
    exact (Nat.mul_eq_zero.1 this.symm).resolve_right (by omega)
  · rcases h1.2 with ⟨k, _⟩ | ⟨g, cap, cur, k, hbg, hgg, _⟩
    · cases k
    · injection k with k1 _ _
      injection k1 with k1
      injection k1 with k1 k2
      subst k1 k2
      exact .inr ⟨_, _, rfl, hB _ hbg hlt⟩
/-- One element more, behind an append. -/
theorem GOwn.app (C : Clo sz P) {v' : Value} {cs E : List Value} {x : α} (hl : xs.length = n) (h2 : Elems (P w (fun b => R b ∧ some b ≠ v.ownBlock)) sz xs cs)
    (hx : P w (fun b => R b ∧ some b ≠ v.ownBlock) x E) (own : w'.ownsRow B e sz v' (n + 1) (cs ++ E)) (hg : w.grownBy w' v.ownBlock) (hv : v'.ownBlock = v.ownBlock ∨ v'.ownBlock = some w.heap.size) :
    GOwn e sz P w' B R (xs ++ [x]) v' (n + 1) := by
  have key : ∀ y c, P w (fun b => R b ∧ some b ≠ v.ownBlock) y c → P w' (fun b => R b ∧ some b ≠ v'.ownBlock) y c := fun y c h => by
    refine C.mono (C.grown (C.mono h (R := fun b => (R b ∧ some b ≠ v'.ownBlock) ∧ some b ≠ v.ownBlock) fun b hb hlt => ⟨⟨hb.1, ?_⟩, hb.2⟩) hg (fun b hb => hb.2)) fun b hb _ => hb.1
    rcases hv with e | e
    · rw [e]; exact hb.2
    · rw [e]; intro e2; cases e2; omega
  exact ⟨⟨cs ++ E, own, (h2.mono key).append (Elems.one (key _ _ hx) (C.len hx))⟩, by simp [hl]⟩
end
/-- append of one element that the statement itself has just laid. -/
theorem ap1g {α : Type} {e : TypeId} {sz bytes : Nat} {P : World → (Nat → Prop) → α → List Value → Prop} (C : Clo sz P) {t : TypeId} (T : ElemT Tryz.prog t e sz bytes)
    {ops : Array Oper} {rest : List Oper} {o : Oper} {a : Act} {Q : Exit → Act → World → Prop} {w : World} (hgd : o.guard = none) {s x : Operand}
    (ho : o.op = .call { callee := .builtin .append, args := #[s, x], argTypes := #[t, t] })
    {e' : TypeId} {B : Nat} {R : Nat → Prop} {v : Value} {n : Nat} {xs : List α} (hs : a.eval s = v) (hown : GOwn e sz P w B R xs v n) {y : α}
    {c : Nat} {E : List Value} (hx : a.eval x = .slice (some ⟨w.heap.size, 0, none⟩) 1 c) (hy : P w (fun b => R b ∧ some b ≠ v.ownBlock) y E) (hn : (n + 1) * bytes ≤ 140737488355328) (hbase : B ≤ w.heap.size)
    (h : ∀ v' w', GOwn e sz P w' B R (xs ++ [y]) v' (n + 1) → w.grownBy w' v.ownBlock → Below B w w' → w.heap.size < w'.heap.size → wpList Tryz.prog ops Q rest (a.put o.dst v') w') : wpList Tryz.prog ops Q (o :: rest) a (w.alloc (.cells E.toArray e')) := by
  have hA := hown.alloc C (.cells E.toArray e')
  obtain ⟨cs, own0, el0⟩ := hA.mem
  have hy' := C.below hy (w' := w.alloc (.cells E.toArray e')) ((Below.refl w.heap.size w).alloc (Nat.le_refl _) _) (Nat.le_refl _)
  refine apx hgd ho T hs own0 (m := 1) (news := E) ?_ hn (by simp; omega) fun v' w' h2 h3 h4 => h v' w' (GOwn.app C hA.len el0 hy' h2 h3 h4) (grownBy_trans_alloc h3) ?_ (by have := h3.size; simp at this; omega)
  · rw [hx]
    exact Src.ofSlice _ T.ht _ _ _ _ (by rw [C.len hy, Nat.one_mul]) (fun j u hu => by rw [addr_add]; simp [hu]) (C.one hy)
  · obtain ⟨cs0, own1, _⟩ := hown.mem
    exact grown_below (grownBy_trans_alloc h3) own1 hbase
end Go.Proofs.YtgngehfgcogceaaGreatDoor

end
section
/- Solutions in plain words: the search by a list of what is still to do, and the one by marks, both say what a solution is. No program in sight. -/
namespace Go.Proofs.YtgngehfgcogceaaGreatDoor
namespace Pl

theorem rng_okx {r : List Ivl} (h : rngF r = (0, 0)) : ∀ x ∈ r, x.Ok := by
  rcases rngF_cases r with h1 | h1
  · exact h1.2.2.ok
  · exact absurd (by rw [h]) h1
def Need.at' (d : Need) : Nat := d.pk.toNat
def hasAt (u : Uni) (d : Need) (k : Nat) : Bool := match u[d.at']? with
  | some l => (match l[k]? with | some r => hasB d.rg r.v | none => false)
  | none => false
def numAt (ch : List Int) (p : Nat) : Int := ch.getD p (-1)
def satB (u : Uni) (ch : List Int) (d : Need) : Bool := decide (0 ≤ numAt ch d.at') && hasAt u d (numAt ch d.at').toNat
def needsOf (u : Uni) (p k : Nat) : List Need := match u[p]? with
  | some l => (match l[k]? with | some r => r.ns | none => [])
  | none => []
def needsAt (u : Uni) (ch : List Int) (p : Nat) : List Need := if 0 ≤ numAt ch p then needsOf u p (numAt ch p).toNat else []
/-- Packages that the wants come to. -/
inductive Rch (u : Uni) (ws : List Need) (ch : List Int) : Nat → Prop
  | want {d : Need} : d ∈ ws → Rch u ws ch d.at'
  | step {p : Nat} {d : Need} : Rch u ws ch p → d ∈ needsAt u ch p → Rch u ws ch d.at'
structure Sol (u : Uni) (ws : List Need) (ch : List Int) : Prop where
  sat0 : ∀ d ∈ ws, satB u ch d = true
  all : ∀ p, p < ch.length → 0 ≤ numAt ch p → Rch u ws ch p ∧ ∀ d ∈ needsAt u ch p, satB u ch d = true
theorem numAt_lt {ch : List Int} {p : Nat} (h : 0 ≤ numAt ch p) : p < ch.length := by
  by_cases c : p < ch.length
  · exact c
  · unfold numAt at h
    rw [List.getD_eq_getElem?_getD, List.getElem?_eq_none (by omega)] at h
    exact absurd h (by decide)
theorem satB_num {u : Uni} {ch : List Int} {d : Need} (h : satB u ch d = true) : 0 ≤ numAt ch d.at' := by
  unfold satB at h
  rw [Bool.and_eq_true, decide_eq_true_eq] at h
  exact h.1
theorem needsAt_num {u : Uni} {ch : List Int} {p : Nat} {d : Need} (h : d ∈ needsAt u ch p) : 0 ≤ numAt ch p := by
  unfold needsAt at h
  by_cases c : 0 ≤ numAt ch p
  · exact c
  · rw [if_neg c] at h; cases h
theorem Sol.rch {u : Uni} {ws : List Need} {ch : List Int} (h : Sol u ws ch) {p : Nat} (r : Rch u ws ch p) : 0 ≤ numAt ch p := by
  cases r with
  | want hd => exact satB_num (h.sat0 _ hd)
  | step _ hd => exact satB_num ((h.all _ (numAt_lt (needsAt_num hd)) (needsAt_num hd)).2 _ hd)
/-- Where a need comes from. -/
def From (u : Uni) (ws : List Need) (ch : List Int) (d : Need) : Prop := d ∈ ws ∨ ∃ p, Rch u ws ch p ∧ d ∈ needsAt u ch p
theorem From.rch {u : Uni} {ws : List Need} {ch : List Int} {d : Need} (h : From u ws ch d) : Rch u ws ch d.at' := by
  rcases h with h | ⟨p, h1, h2⟩
  · exact .want h
  · exact .step h1 h2
theorem Sol.sat {u : Uni} {ws : List Need} {ch : List Int} (h : Sol u ws ch) {d : Need} (f : From u ws ch d) : satB u ch d = true := by
  rcases f with f | ⟨p, _, h2⟩
  · exact h.sat0 _ f
  · exact (h.all p (numAt_lt (needsAt_num h2)) (needsAt_num h2)).2 _ h2

/-- One list of needs is gone through: what is still to do, what is reached. -/
def wIn (u : Uni) (ch : List Int) : List Need → List (List Need) → List Bool → Option (List (List Need) × List Bool)
  | [], T, R => some (T, R)
  | d :: l, T, R => if satB u ch d = true then (if R.getD d.at' false = true then wIn u ch l T R else wIn u ch l (T ++ [needsAt u ch d.at']) (R.set d.at' true)) else none
def lastB (ch : List Int) (R : List Bool) : Bool := (List.range ch.length).all fun p => !(decide (0 ≤ numAt ch p) && !R.getD p false)
def wOut (u : Uni) (ch : List Int) : Nat → List (List Need) → List Bool → Bool
  | 0, _, _ => false
  | f + 1, T, R => match T.getLast? with
    | none => lastB ch R
    | some l => (match wIn u ch l T.dropLast R with | none => false | some s => wOut u ch f s.1 s.2)
def free (R : List Bool) : Nat := R.countP fun b => !b
def solB (u : Uni) (ws : List Need) (ch : List Int) : Bool := wOut u ch 14 [ws] (List.replicate 6 false)

theorem getD_set {R : List Bool} {p q : Nat} (b : Bool) : (R.set p b).getD q false = if p = q ∧ p < R.length then b else R.getD q false := by
  rw [List.getD_eq_getElem?_getD, List.getD_eq_getElem?_getD, List.getElem?_set]
  by_cases h : p = q
  · subst h
    by_cases g : p < R.length
    · rw [if_pos rfl, if_pos g, if_pos ⟨rfl, g⟩]; rfl
    · rw [if_pos rfl, if_neg g, if_neg (fun e => g e.2), List.getElem?_eq_none (by omega)]
  · rw [if_neg h, if_neg (fun e => h e.1)]
theorem free_set : ∀ {R : List Bool} {p : Nat}, p < R.length → R.getD p false = false → free (R.set p true) + 1 = free R
  | [], p, h, _ => absurd h (by simp)
  | b :: R, 0, _, h => by
    have : b = false := by simpa using h
    subst this
    simp [free]
  | b :: R, p + 1, h, g => by
    have := free_set (R := R) (p := p) (by simpa using h) (by simpa using g)
    unfold free at this ⊢
    rw [List.set_cons_succ, List.countP_cons, List.countP_cons]
    omega
/-- What holds while the search goes on. -/
structure WInv (u : Uni) (ws : List Need) (ch : List Int) (T : List (List Need)) (R : List Bool) (pend : List Need) : Prop where
  rl : R.length = 6
  rr : ∀ p, R.getD p false = true → Rch u ws ch p
  tt : ∀ l ∈ T, ∀ d ∈ l, From u ws ch d
  pp : ∀ d ∈ pend, From u ws ch d
  cw : ∀ d ∈ ws, (satB u ch d = true ∧ R.getD d.at' false = true) ∨ (∃ l ∈ T, d ∈ l) ∨ d ∈ pend
  cn : ∀ p, R.getD p false = true → ∀ d ∈ needsAt u ch p, (satB u ch d = true ∧ R.getD d.at' false = true) ∨ (∃ l ∈ T, d ∈ l) ∨ d ∈ pend
theorem wIn_law {u : Uni} {ws : List Need} {ch : List Int} (hch : ch.length ≤ 6) : ∀ (l : List Need) (T : List (List Need)) (R : List Bool), WInv u ws ch T R l →
    (wIn u ch l T R = none → ¬ Sol u ws ch) ∧ ∀ T' R', wIn u ch l T R = some (T', R') → WInv u ws ch T' R' [] ∧ 2 * free R' + T'.length ≤ 2 * free R + T.length
  | [], T, R, h => ⟨(by intro e; simp [wIn] at e), fun T' R' e => by
    simp only [wIn, Option.some.injEq, Prod.mk.injEq] at e
    obtain ⟨rfl, rfl⟩ := e
    exact ⟨h, Nat.le_refl _⟩⟩
  | d :: l, T, R, h => by
    unfold wIn
    by_cases hs : satB u ch d = true
    · rw [if_pos hs]
      by_cases hr : R.getD d.at' false = true
      · rw [if_pos hr]
        refine wIn_law hch l T R ⟨h.rl, h.rr, h.tt, fun x hx => h.pp x (List.mem_cons_of_mem _ hx), fun x hx => ?_, fun p hp x hx => ?_⟩
        · rcases h.cw x hx with h1 | h1 | h1
          · exact .inl h1
          · exact .inr (.inl h1)
          · rcases List.mem_cons.1 h1 with rfl | h1
            · exact .inl ⟨hs, hr⟩
            · exact .inr (.inr h1)
        · rcases h.cn p hp x hx with h1 | h1 | h1
          · exact .inl h1
          · exact .inr (.inl h1)
          · rcases List.mem_cons.1 h1 with rfl | h1
            · exact .inl ⟨hs, hr⟩
            · exact .inr (.inr h1)
      · rw [if_neg hr]
        have hf : From u ws ch d := h.pp d List.mem_cons_self
        have hlt : d.at' < R.length := by have := numAt_lt (satB_num hs); have := h.rl; omega
        have hr' : R.getD d.at' false = false := by simpa using hr
        have mono : ∀ q, R.getD q false = true → (R.set d.at' true).getD q false = true := fun q hq => by
          rw [getD_set]; split
          · rfl
          · exact hq
        have self : (R.set d.at' true).getD d.at' false = true := by rw [getD_set, if_pos ⟨rfl, hlt⟩]
        have IH := wIn_law (ws := ws) hch l (T ++ [needsAt u ch d.at']) (R.set d.at' true) ⟨by rw [List.length_set, h.rl], fun p hp => ?_, fun k hk x hx => ?_, fun x hx => h.pp x (List.mem_cons_of_mem _ hx), fun x hx => ?_, fun p hp x hx => ?_⟩
        · refine ⟨IH.1, fun T' R' e => ?_⟩
          obtain ⟨h1, h2⟩ := IH.2 T' R' e
          refine ⟨h1, ?_⟩
          have := free_set hlt hr'
          rw [List.length_append, List.length_singleton] at h2
          omega
        · rw [getD_set] at hp
          split at hp
          · rename_i e; rw [← e.1]; exact hf.rch
          · exact h.rr p hp
        · rcases List.mem_append.1 hk with hk | hk
          · exact h.tt k hk x hx
          · rw [List.mem_singleton.1 hk] at hx
            exact .inr ⟨d.at', hf.rch, hx⟩
        · rcases h.cw x hx with ⟨h1, h2⟩ | ⟨k, h1, h2⟩ | h1
          · exact .inl ⟨h1, mono _ h2⟩
          · exact .inr (.inl ⟨k, List.mem_append_left _ h1, h2⟩)
          · rcases List.mem_cons.1 h1 with rfl | h1
            · exact .inl ⟨hs, self⟩
            · exact .inr (.inr h1)
        · rw [getD_set] at hp
          split at hp
          · rename_i e
            rw [← e.1] at hx
            exact .inr (.inl ⟨_, List.mem_append_right _ List.mem_cons_self, hx⟩)
          · rcases h.cn p hp x hx with ⟨h1, h2⟩ | ⟨k, h1, h2⟩ | h1
            · exact .inl ⟨h1, mono _ h2⟩
            · exact .inr (.inl ⟨k, List.mem_append_left _ h1, h2⟩)
            · rcases List.mem_cons.1 h1 with rfl | h1
              · exact .inl ⟨hs, self⟩
              · exact .inr (.inr h1)
    · rw [if_neg hs]
      exact ⟨fun _ hS => hs (hS.sat (h.pp d List.mem_cons_self)), fun _ _ e => by cases e⟩
theorem lastB_iff {ch : List Int} {R : List Bool} : lastB ch R = true ↔ ∀ p, p < ch.length → 0 ≤ numAt ch p → R.getD p false = true := by
  unfold lastB
  rw [List.all_eq_true]
  refine ⟨fun h p hp hn => ?_, fun h p hp => ?_⟩
  · have := h p (List.mem_range.2 hp)
    rw [decide_eq_true hn] at this
    simpa using this
  · by_cases c : 0 ≤ numAt ch p
    · rw [h p (List.mem_range.1 hp) c]; simp
    · rw [decide_eq_false c]; rfl
theorem last_law {u : Uni} {ws : List Need} {ch : List Int} {R : List Bool} (h : WInv u ws ch [] R []) : lastB ch R = true ↔ Sol u ws ch := by
  have hw : ∀ d ∈ ws, satB u ch d = true ∧ R.getD d.at' false = true := fun d hd => by
    rcases h.cw d hd with h1 | ⟨_, h1, _⟩ | h1
    · exact h1
    · cases h1
    · cases h1
  have hn : ∀ p, R.getD p false = true → ∀ d ∈ needsAt u ch p, satB u ch d = true ∧ R.getD d.at' false = true := fun p hp d hd => by
    rcases h.cn p hp d hd with h1 | ⟨_, h1, _⟩ | h1
    · exact h1
    · cases h1
    · cases h1
  have hr : ∀ p, Rch u ws ch p → R.getD p false = true := fun p hp => by
    induction hp with
    | want hd => exact (hw _ hd).2
    | step _ hd ih => exact (hn _ ih _ hd).2
  rw [lastB_iff]
  refine ⟨fun g => ⟨fun d hd => (hw d hd).1, fun p hp h0 => ⟨h.rr p (g p hp h0), fun d hd => (hn p (g p hp h0) d hd).1⟩⟩, fun g p hp h0 => hr p (g.all p hp h0).1⟩
theorem wOut_law {u : Uni} {ws : List Need} {ch : List Int} (hch : ch.length ≤ 6) : ∀ (f : Nat) (T : List (List Need)) (R : List Bool), WInv u ws ch T R [] → 2 * free R + T.length < f → (wOut u ch f T R = true ↔ Sol u ws ch)
  | 0, _, _, _, h => absurd h (by omega)
  | f + 1, T, R, h, hf => by
    unfold wOut
    rcases List.eq_nil_or_concat T with rfl | ⟨T0, l, rfl⟩
    · exact last_law h
    · rw [List.concat_eq_append] at *
      rw [List.getLast?_concat, List.dropLast_concat]
      simp only
      have hI : WInv u ws ch T0 R l := by
        refine ⟨h.rl, h.rr, fun k hk => h.tt k (List.mem_append_left _ hk), h.tt l (by simp), fun d hd => ?_, fun p hp d hd => ?_⟩
        · rcases h.cw d hd with h1 | ⟨k, h1, h2⟩ | h1
          · exact .inl h1
          · rcases List.mem_append.1 h1 with h1 | h1
            · exact .inr (.inl ⟨k, h1, h2⟩)
            · rw [List.mem_singleton.1 h1] at h2; exact .inr (.inr h2)
          · cases h1
        · rcases h.cn p hp d hd with h1 | ⟨k, h1, h2⟩ | h1
          · exact .inl h1
          · rcases List.mem_append.1 h1 with h1 | h1
            · exact .inr (.inl ⟨k, h1, h2⟩)
            · rw [List.mem_singleton.1 h1] at h2; exact .inr (.inr h2)
          · cases h1
      obtain ⟨hn, hs⟩ := wIn_law hch l T0 R hI
      rw [List.length_append, List.length_singleton] at hf
      cases e : wIn u ch l T0 R with
      | none => exact ⟨fun h => (by cases h), fun h => absurd h (hn e)⟩
      | some s =>
        obtain ⟨T', R'⟩ := s
        obtain ⟨h1, h2⟩ := hs T' R' e
        exact wOut_law hch f T' R' h1 (by omega)
theorem solB_iff {u : Uni} {ws : List Need} {ch : List Int} (hch : ch.length ≤ 6) : solB u ws ch = true ↔ Sol u ws ch := by
  have z : ∀ p, (List.replicate 6 false).getD p false = false := fun p => by
    rw [List.getD_eq_getElem?_getD, List.getElem?_replicate]
    split <;> rfl
  refine wOut_law hch 14 [ws] _ ⟨by simp, fun p hp => ?_, fun l hl d hd => ?_, fun d hd => (by cases hd), fun d hd => .inr (.inl ⟨ws, List.mem_singleton.2 rfl, hd⟩), fun p hp => ?_⟩ (by rw [List.length_singleton]; decide)
  · rw [z] at hp; cases hp
  · rw [List.mem_singleton.1 hl] at hd; exact .inl hd
  · rw [z] at hp; cases hp

/-- Marks S reach marks S'. -/
structure MLe (u : Uni) (ws : List Need) (ch : List Int) (S S' : List Bool) : Prop where
  len : S'.length = S.length
  le : ∀ q, S.getD q false = true → S'.getD q false = true
  rr : (∀ q, S.getD q false = true → Rch u ws ch q) → ∀ q, S'.getD q false = true → Rch u ws ch q
theorem MLe.refl {u : Uni} {ws : List Need} {ch : List Int} (S : List Bool) : MLe u ws ch S S := ⟨rfl, fun _ h => h, fun h => h⟩
theorem MLe.trans {u : Uni} {ws : List Need} {ch : List Int} {S T V : List Bool} (h : MLe u ws ch S T) (g : MLe u ws ch T V) : MLe u ws ch S V := ⟨g.len.trans h.len, fun q hq => g.le q (h.le q hq), fun k => g.rr (h.rr k)⟩
end Pl
end Go.Proofs.YtgngehfgcogceaaGreatDoor

end
