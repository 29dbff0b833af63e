/- Texts joined: Og Ez Oi Oj Bm Bn. -/
import Derived.Test.YtgngehfgcogceaaGreatDoorZOe
import Derived.Test.YtgngehfgcogceaaGreatDoorZMKo
import Derived.Test.YtgngehfgcogceaaGreatDoorZMDf
import Derived.Test.YtgngehfgcogceaaGreatDoorZDh
import Derived.Test.YtgngehfgcogceaaGreatDoorZMKd
import Derived.Test.YtgngehfgcogceaaGreatDoorZMQd
section
/- Contract: the fault of a universe, by the program. -/
namespace Go.Proofs.YtgngehfgcogceaaGreatDoor
open Go.RowKit

set_option maxRecDepth 100000 in
set_option maxHeartbeats 4000000 in
theorem sUni_any (u : Pl.Uni) (a : Option Addr) (c : Nat) (w : World) (h : UIn w u a c) :
    Calls Tryz.prog 18 #[.agg #[.slice a u.length c]] w fun e w' => e = .returned (fltV (Pl.uniF u)) ∧ Below w.heap.size w w' := by
  have hm := h.len
  obtain ⟨F, hF⟩ : ∃ F, Pl.uniF u = F := ⟨_, rfl⟩
  rw [hF]
  have H := Lib.hid h
  clear h
  by_cases hn : 6 < u.length
  · have E : F = (2, -1) := by rw [← hF]; unfold Pl.uniF; rw [if_pos hn]
    subst E
    have t1 : decide ((6 : Int) < (u.length : Int)) = true := by simp; omega
    clear hF hn
    go_enter Tryz.func18, Tryz.ntmps18
    go_wp2_with fail
    refine bodyPost_ret (v := .agg #[.int .i64 2, .int .i64 (-1)]) (by simp [results, Tryz.results18, go_sem]) rfl ⟨rfl, by go_grown⟩
  · have HF := Lib.hid (show Pl.codeAt (Pl.uniI u) u.length 0 = F by rw [← hF]; unfold Pl.uniF; rw [if_neg hn])
    have t1 : decide ((6 : Int) < (u.length : Int)) = false := by simp; omega
    clear hF hn
    go_enter Tryz.func18, Tryz.ntmps18
    go_wp2_with fail
    go_loopw [14] (fun i wr => ∃ k : Nat, k ≤ u.length ∧ i = .int .i64 k ∧ Hid (Pl.codeAt (Pl.uniI u) u.length k = F) ∧ Below (w.heap.size + 2) ((w.alloc (.cells #[.slice a u.length c] 24)).alloc (.cells #[.int .i64 0, .int .i64 0] 30)) wr) (fun i _ => u.length - (intOf i).toNat)
    case atStart => exact ⟨0, Nat.zero_le _, rfl, HF, Below.refl _ _⟩
    case round =>
      obtain ⟨k, hk, rfl, hu, hb⟩ := hrel
      have HB := hb
      have B1 : Below w.heap.size w wr := bcall (by go_grown) hb (by simp)
      have q0 : w.heap.size + 2 ≤ wr.heap.size := by have z := hb.size; simp at z; omega
      have X : Bk wr w.heap.size [.slice a u.length c] := ((Bk.new (cs := [.slice a u.length c]) _ _ rfl).alloc _).below hb (by simp)
      have R : Bk wr (w.heap.size + 1) [.int .i64 0, .int .i64 0] := (Bk.new (cs := [.int .i64 0, .int .i64 0]) _ _ (by simp)).below hb (by simp)
      by_cases hlt2 : k < u.length
      · obtain ⟨b, off, rfl, hlt, hat⟩ := (H.out.below B1 (Nat.le_refl _)).at (by omega)
        obtain ⟨a1, c1, I⟩ := hat k hlt2
        have HGO := Lib.hid (Pl.codeAt_go hlt2 hu.out)
        have EI : Pl.uniI u k = Pl.relsC u.length u[k] := by unfold Pl.uniI; rw [dif_pos hlt2]
        obtain ⟨e0, G⟩ := id I
        replace G := Lib.hid G
        clear hat I
        have tz : decide (k < u.length) = true := by simp; omega
        have ty : decide ((k : Int) < (u.length : Int)) = true := by simp; omega
        obtain ⟨C, hC⟩ : ∃ C, Pl.relsC u.length u[k] = C := ⟨_, rfl⟩
        have HC := Lib.hid hC
        rw [EI, hC] at HGO
        clear EI hC hu
        by_cases c0 : C = 0
        · subst c0
          have E := Lib.hid (HGO.out.1 rfl)
          clear HGO
          generalize u[k] = l at *
          obtain ⟨X_c, X_f, X_l⟩ := id X
          obtain ⟨R_c, R_f, R_l⟩ := id R
          go_wp2_with fail
          refine (sRels_any l a1 c1 u.length _ G.out).mono ?_
          rintro e w2 ⟨rfl, hb⟩
          rw [HC.out]
          have hbN : Below (w.heap.size + 2) _ w2 := bcall HB hb (by omega)
          have B2 : Below w.heap.size w w2 := bcall (by go_grown) hb (by go_size)
          have q2 : wr.heap.size + 0 ≤ w2.heap.size := by have z := hb.size; (try simp only [World.size_alloc, World.size_setCell, World.size_drew] at z); omega
          replace G := Lib.hid (G.out.below hb (Nat.le_refl _))
          replace X := (X).below hb (by go_size)
          replace R := (R).below hb (by go_size)
          clear hb
          have s2 : w.heap.size ≤ w2.heap.size := B2.size
          clear X_c X_f X_l R_c R_f R_l
          obtain ⟨X_c, X_f, X_l⟩ := id X
          obtain ⟨R_c, R_f, R_l⟩ := id R
          go_wp2_with fail
          go_roundw
          case rel => exact ⟨k + 1, hlt2, by go_num, E, hbN⟩
          case measure => simp [intOf]; omega
        · have E := Lib.hid (HGO.out.2 c0)
          have t2 := beqF c0
          have t3 := bneT c0
          clear HGO c0
          generalize u[k] = l at *
          obtain ⟨X_c, X_f, X_l⟩ := id X
          obtain ⟨R_c, R_f, R_l⟩ := id R
          go_wp2_with fail
          refine (sRels_any l a1 c1 u.length _ G.out).mono ?_
          rintro e w2 ⟨rfl, hb⟩
          rw [HC.out]
          have hbN : Below (w.heap.size + 2) _ w2 := bcall HB hb (by omega)
          have B2 : Below w.heap.size w w2 := bcall (by go_grown) hb (by go_size)
          have q2 : wr.heap.size + 0 ≤ w2.heap.size := by have z := hb.size; (try simp only [World.size_alloc, World.size_setCell, World.size_drew] at z); omega
          replace G := Lib.hid (G.out.below hb (Nat.le_refl _))
          replace X := (X).below hb (by go_size)
          replace R := (R).below hb (by go_size)
          clear hb
          have s2 : w.heap.size ≤ w2.heap.size := B2.size
          clear X_c X_f X_l R_c R_f R_l
          obtain ⟨X_c, X_f, X_l⟩ := id X
          obtain ⟨R_c, R_f, R_l⟩ := id R
          go_wp2_with fail
          refine bodyPost_ret (v := .agg #[.int .i64 C, .int .i64 (k : Int)]) (by simp [results, Tryz.results18, go_sem, R_c]) rfl ⟨by rw [E.out], by go_grown⟩
      · have E := Lib.hid (Pl.codeAt_end (by omega) hu.out)
        obtain ⟨X_c, X_f, X_l⟩ := X
        obtain ⟨R_c, R_f, R_l⟩ := R
        have t2 : decide ((k : Int) < (u.length : Int)) = false := by simp; omega
        have t3 : decide (k < u.length) = false := by simp; omega
        go_wp2_with fail
        refine bodyPost_ret (v := .agg #[.int .i64 0, .int .i64 0]) (by simp [results, Tryz.results18, go_sem, R_c]) rfl ⟨by rw [E.out], by go_grown⟩
end Go.Proofs.YtgngehfgcogceaaGreatDoor

end
section
/- The intervals of a range at their place. -/
namespace Go.Proofs.YtgngehfgcogceaaGreatDoor
open Go.RowKit

/-- The intervals of a range, at their place. -/
structure RAt (w : World) (r : List Pl.Ivl) (b off : Nat) : Prop where
  lt : b < w.heap.size
  iv : ∀ k (hk : k < r.length), ∃ a1 b1 c1 d1, IvAt w b (off + k * 9) r[k] a1 b1 c1 d1
theorem RAt.below {w w' : World} {r : List Pl.Ivl} {b off : Nat} (h : RAt w r b off) {B : Nat} (hb : Below B w w') (hB : w.heap.size ≤ B) : RAt w' r b off := by
  refine ⟨Nat.lt_of_lt_of_le h.lt hb.size, fun k hk => ?_⟩
  obtain ⟨a1, b1, c1, d1, I⟩ := h.iv k hk
  exact ⟨a1, b1, c1, d1, I.below hb h.lt hB⟩
theorem IvAt.far {w : World} {b o : Nat} {x : Pl.Ivl} {a1 b1 : Option Addr} {c1 d1 : Nat} (h : IvAt w b o x a1 b1 c1 d1) {g j : Nat} (hb : b ≠ g) {u : Value} (hu : w.cell? ⟨g, j, none⟩ = some u) (hs : ∀ s, u ≠ .string s) (v : Value) : IvAt (w.setCell ⟨g, j, none⟩ v) b o x a1 b1 c1 d1 :=
  have e : ∀ i, (w.setCell ⟨g, j, none⟩ v).cell? ⟨b, i, none⟩ = w.cell? ⟨b, i, none⟩ := fun i => World.cell?_setCell_other _ _ _ _ (fun e => by injection e with e1 _; first | exact hb e1 | exact hb e1.symm)
  ⟨(e _).trans h.e0, (e _).trans h.e1, (e _).trans h.e2, (e _).trans h.e3, (e _).trans h.e4, (e _).trans h.e5, (e _).trans h.e6, (e _).trans h.e7, (e _).trans h.e8, h.lo.setNS hu hs v, h.hi.setNS hu hs v⟩
theorem RAt.far {w : World} {r : List Pl.Ivl} {b off : Nat} (h : RAt w r b off) {g j : Nat} (hb : b ≠ g) {u : Value} (hu : w.cell? ⟨g, j, none⟩ = some u) (hs : ∀ s, u ≠ .string s) (v : Value) : RAt (w.setCell ⟨g, j, none⟩ v) r b off := by
  refine ⟨by simpa using h.lt, fun k hk => ?_⟩
  obtain ⟨a1, b1, c1, d1, I⟩ := h.iv k hk
  exact ⟨a1, b1, c1, d1, I.far hb hu hs v⟩
end Go.Proofs.YtgngehfgcogceaaGreatDoor

end
section
/- Contracts: the fault of a universe and wants, by the program and by the reference. -/
namespace Go.Proofs.YtgngehfgcogceaaGreatDoor
open Go.RowKit

set_option maxRecDepth 100000 in
set_option maxHeartbeats 2000000 in
theorem sArgs_a (u : Pl.Uni) (ws : List Pl.Need) (a b : Option Addr) (c d : Nat) (w : World) (h1 : UIn w u a c) (h2 : NsIn w ws b d) (f1 f2 : Int) (hf : f1 ≠ 0) (e1 : Pl.uniF u = (f1, f2)) :
    Calls Tryz.prog 14 #[.agg #[.slice a u.length c], .slice b ws.length d] w fun e w' => e = .returned (fltV (f1, f2)) ∧ Below w.heap.size w w' := by
  have hm := h1.len
  have CA := Lib.hid (fun (W : World) (g1 : UIn W u a c) => sUni_any u a c W g1)
  have CB := Lib.hid (fun (W : World) (g1 : NsIn W ws b d) => sNeeds_any ws b d u.length W g1)
  have H := Lib.hid h1
  have K := Lib.hid h2
  rw [e1] at CA
  have u1 := bneT hf
  have u2 := beqF hf
  clear e1 hf
  simp only [fltV] at CA CB ⊢
  clear h1 h2
  go_enter Tryz.func14, Tryz.ntmps14
  have B0 : Below w.heap.size w w := Below.refl _ _
  go_wp2_with fail
  refine (CA.out _ (H.out.below (by go_grown) (Nat.le_refl _))).mono ?_
  rintro e w1 ⟨rfl, hb⟩
  have B1 : Below w.heap.size w w1 := bcall (by go_grown) hb (by go_size)
  have q1 : w.heap.size + 2 ≤ w1.heap.size := by have z := hb.size; (try simp only [World.size_alloc] at z); omega
  replace H := Lib.hid (((H.out.below (Below.refl _ _ |>.alloc (Nat.le_refl _) _) (Nat.le_refl _)).below (Below.refl _ _ |>.alloc (Nat.le_refl _) _) (Nat.le_refl _)).below hb (Nat.le_refl _))
  replace K := Lib.hid (((K.out.below (Below.refl _ _ |>.alloc (Nat.le_refl _) _) (Nat.le_refl _)).below (Below.refl _ _ |>.alloc (Nat.le_refl _) _) (Nat.le_refl _)).below hb (Nat.le_refl _))
  have X := (((Bk.new (r := w.heap.size) (cs := [.slice a u.length c]) _ 24 (by simp)).alloc _)).below hb (by go_size)
  have R := ((Bk.new (r := w.heap.size + 1) (cs := [.int .i64 0, .int .i64 0]) _ 30 (by simp))).below hb (by go_size)
  clear hb
  have s1 : w.heap.size ≤ w1.heap.size := B1.size
  obtain ⟨X_c, X_f, X_l⟩ := id X
  obtain ⟨R_c, R_f, R_l⟩ := id R
  go_wp2_with fail
  have RN := (((R.set (k := 0) (by simp) (.int .i64 f1)).set (k := 1) (by simp) (.int .i64 f2)).alloc (.cells #[.int .i64 f1, .int .i64 f2] 30))
  obtain ⟨RN_c, RN_f, RN_l⟩ := RN
  refine bodyPost_ret (v := .agg #[.int .i64 f1, .int .i64 f2]) (by simp [results, Tryz.results14, go_sem, RN_c]) rfl ⟨rfl, by go_grown⟩
set_option maxRecDepth 100000 in
set_option maxHeartbeats 2000000 in
theorem sArgs_b (u : Pl.Uni) (ws : List Pl.Need) (a b : Option Addr) (c d : Nat) (w : World) (h1 : UIn w u a c) (h2 : NsIn w ws b d) (f1 : Int) (hf : f1 ≠ 0) (e1 : Pl.uniF u = (0, 0)) (e2 : Pl.needsC u.length ws = f1) :
    Calls Tryz.prog 14 #[.agg #[.slice a u.length c], .slice b ws.length d] w fun e w' => e = .returned (fltV (f1, -2)) ∧ Below w.heap.size w w' := by
  have hm := h1.len
  have CA := Lib.hid (fun (W : World) (g1 : UIn W u a c) => sUni_any u a c W g1)
  have CB := Lib.hid (fun (W : World) (g1 : NsIn W ws b d) => sNeeds_any ws b d u.length W g1)
  have H := Lib.hid h1
  have K := Lib.hid h2
  rw [e1] at CA
  rw [e2] at CB
  have u1 := bneT hf
  have u2 := beqF hf
  clear e1 e2 hf
  simp only [fltV] at CA CB ⊢
  clear h1 h2
  go_enter Tryz.func14, Tryz.ntmps14
  have B0 : Below w.heap.size w w := Below.refl _ _
  go_wp2_with fail
  refine (CA.out _ (H.out.below (by go_grown) (Nat.le_refl _))).mono ?_
  rintro e w1 ⟨rfl, hb⟩
  have B1 : Below w.heap.size w w1 := bcall (by go_grown) hb (by go_size)
  have q1 : w.heap.size + 2 ≤ w1.heap.size := by have z := hb.size; (try simp only [World.size_alloc] at z); omega
  replace H := Lib.hid (((H.out.below (Below.refl _ _ |>.alloc (Nat.le_refl _) _) (Nat.le_refl _)).below (Below.refl _ _ |>.alloc (Nat.le_refl _) _) (Nat.le_refl _)).below hb (Nat.le_refl _))
  replace K := Lib.hid (((K.out.below (Below.refl _ _ |>.alloc (Nat.le_refl _) _) (Nat.le_refl _)).below (Below.refl _ _ |>.alloc (Nat.le_refl _) _) (Nat.le_refl _)).below hb (Nat.le_refl _))
  have X := (((Bk.new (r := w.heap.size) (cs := [.slice a u.length c]) _ 24 (by simp)).alloc _)).below hb (by go_size)
  have R := ((Bk.new (r := w.heap.size + 1) (cs := [.int .i64 0, .int .i64 0]) _ 30 (by simp))).below hb (by go_size)
  clear hb
  have s1 : w.heap.size ≤ w1.heap.size := B1.size
  obtain ⟨X_c, X_f, X_l⟩ := id X
  obtain ⟨R_c, R_f, R_l⟩ := id R
  go_wp2_with fail
  refine (CB.out _ (K.out.below (by go_grown) (Nat.le_refl _))).mono ?_
  rintro e w2 ⟨rfl, hb⟩
  have B2 : Below w.heap.size w w2 := bcall (by go_grown) hb (by go_size)
  have q2 : w1.heap.size + 1 ≤ w2.heap.size := by have z := hb.size; (try simp only [World.size_alloc] at z); omega
  replace H := Lib.hid ((H.out.below (Below.refl _ _ |>.alloc (Nat.le_refl _) _) (Nat.le_refl _)).below hb (Nat.le_refl _))
  replace K := Lib.hid ((K.out.below (Below.refl _ _ |>.alloc (Nat.le_refl _) _) (Nat.le_refl _)).below hb (Nat.le_refl _))
  replace X := ((X.alloc _)).below hb (by go_size)
  replace R := ((R.alloc _)).below hb (by go_size)
  have Z := ((Bk.new (r := w1.heap.size) (cs := [.int .i64 0, .int .i64 0]) _ 30 (by simp))).below hb (by go_size)
  clear hb
  have s2 : w.heap.size ≤ w2.heap.size := B2.size
  clear X_c X_f X_l R_c R_f R_l
  obtain ⟨X_c, X_f, X_l⟩ := id X
  obtain ⟨R_c, R_f, R_l⟩ := id R
  obtain ⟨Z_c, Z_f, Z_l⟩ := id Z
  go_wp2_with fail
  have RN := ((R.set (k := 0) (by simp) (.int .i64 f1)).set (k := 1) (by simp) (.int .i64 (-2)))
  obtain ⟨RN_c, RN_f, RN_l⟩ := RN
  refine bodyPost_ret (v := .agg #[.int .i64 f1, .int .i64 (-2)]) (by simp [results, Tryz.results14, go_sem, RN_c]) rfl ⟨rfl, by go_grown⟩
set_option maxRecDepth 100000 in
set_option maxHeartbeats 2000000 in
theorem sArgs_c (u : Pl.Uni) (ws : List Pl.Need) (a b : Option Addr) (c d : Nat) (w : World) (h1 : UIn w u a c) (h2 : NsIn w ws b d) (e1 : Pl.uniF u = (0, 0)) (e2 : Pl.needsC u.length ws = 0) :
    Calls Tryz.prog 14 #[.agg #[.slice a u.length c], .slice b ws.length d] w fun e w' => e = .returned (fltV (0, 0)) ∧ Below w.heap.size w w' := by
  have hm := h1.len
  have CA := Lib.hid (fun (W : World) (g1 : UIn W u a c) => sUni_any u a c W g1)
  have CB := Lib.hid (fun (W : World) (g1 : NsIn W ws b d) => sNeeds_any ws b d u.length W g1)
  have H := Lib.hid h1
  have K := Lib.hid h2
  rw [e1] at CA
  rw [e2] at CB
  clear e1 e2
  simp only [fltV] at CA CB ⊢
  clear h1 h2
  go_enter Tryz.func14, Tryz.ntmps14
  have B0 : Below w.heap.size w w := Below.refl _ _
  go_wp2_with fail
  refine (CA.out _ (H.out.below (by go_grown) (Nat.le_refl _))).mono ?_
  rintro e w1 ⟨rfl, hb⟩
  have B1 : Below w.heap.size w w1 := bcall (by go_grown) hb (by go_size)
  have q1 : w.heap.size + 2 ≤ w1.heap.size := by have z := hb.size; (try simp only [World.size_alloc] at z); omega
  replace H := Lib.hid (((H.out.below (Below.refl _ _ |>.alloc (Nat.le_refl _) _) (Nat.le_refl _)).below (Below.refl _ _ |>.alloc (Nat.le_refl _) _) (Nat.le_refl _)).below hb (Nat.le_refl _))
  replace K := Lib.hid (((K.out.below (Below.refl _ _ |>.alloc (Nat.le_refl _) _) (Nat.le_refl _)).below (Below.refl _ _ |>.alloc (Nat.le_refl _) _) (Nat.le_refl _)).below hb (Nat.le_refl _))
  have X := (((Bk.new (r := w.heap.size) (cs := [.slice a u.length c]) _ 24 (by simp)).alloc _)).below hb (by go_size)
  have R := ((Bk.new (r := w.heap.size + 1) (cs := [.int .i64 0, .int .i64 0]) _ 30 (by simp))).below hb (by go_size)
  clear hb
  have s1 : w.heap.size ≤ w1.heap.size := B1.size
  obtain ⟨X_c, X_f, X_l⟩ := id X
  obtain ⟨R_c, R_f, R_l⟩ := id R
  go_wp2_with fail
  refine (CB.out _ (K.out.below (by go_grown) (Nat.le_refl _))).mono ?_
  rintro e w2 ⟨rfl, hb⟩
  have B2 : Below w.heap.size w w2 := bcall (by go_grown) hb (by go_size)
  have q2 : w1.heap.size + 1 ≤ w2.heap.size := by have z := hb.size; (try simp only [World.size_alloc] at z); omega
  replace H := Lib.hid ((H.out.below (Below.refl _ _ |>.alloc (Nat.le_refl _) _) (Nat.le_refl _)).below hb (Nat.le_refl _))
  replace K := Lib.hid ((K.out.below (Below.refl _ _ |>.alloc (Nat.le_refl _) _) (Nat.le_refl _)).below hb (Nat.le_refl _))
  replace X := ((X.alloc _)).below hb (by go_size)
  replace R := ((R.alloc _)).below hb (by go_size)
  have Z := ((Bk.new (r := w1.heap.size) (cs := [.int .i64 0, .int .i64 0]) _ 30 (by simp))).below hb (by go_size)
  clear hb
  have s2 : w.heap.size ≤ w2.heap.size := B2.size
  clear X_c X_f X_l R_c R_f R_l
  obtain ⟨X_c, X_f, X_l⟩ := id X
  obtain ⟨R_c, R_f, R_l⟩ := id R
  obtain ⟨Z_c, Z_f, Z_l⟩ := id Z
  go_wp2_with fail
  have RN := ((R.set (k := 0) (by simp) (.int .i64 0)).set (k := 1) (by simp) (.int .i64 0))
  obtain ⟨RN_c, RN_f, RN_l⟩ := RN
  refine bodyPost_ret (v := .agg #[.int .i64 0, .int .i64 0]) (by simp [results, Tryz.results14, go_sem, RN_c]) rfl ⟨rfl, by go_grown⟩
theorem sArgs_any (u : Pl.Uni) (ws : List Pl.Need) (a b : Option Addr) (c d : Nat) (w : World) (h1 : UIn w u a c) (h2 : NsIn w ws b d) :
    Calls Tryz.prog 14 #[.agg #[.slice a u.length c], .slice b ws.length d] w fun e w' => e = .returned (fltV (Pl.wantsF u ws)) ∧ Below w.heap.size w w' := by
  unfold Pl.wantsF
  by_cases f1 : (Pl.uniF u).1 = 0
  · rw [if_neg (fun e => e f1)]
    by_cases f2 : Pl.needsC u.length ws = 0
    · rw [if_neg (fun e => e f2)]
      exact sArgs_c u ws a b c d w h1 h2 (Pl.uniF_ne f1) f2
    · rw [if_pos f2]
      exact sArgs_b u ws a b c d w h1 h2 _ f2 (Pl.uniF_ne f1) rfl
  · rw [if_pos f1]
    obtain ⟨X, hX⟩ : ∃ X, Pl.uniF u = X := ⟨_, rfl⟩
    obtain ⟨x1, x2⟩ := X
    rw [hX] at f1 ⊢
    exact sArgs_a u ws a b c d w h1 h2 x1 x2 f1 hX
end Go.Proofs.YtgngehfgcogceaaGreatDoor

end
section
/- Contracts: the fault of a selection, by the program and by the reference. -/
namespace Go.Proofs.YtgngehfgcogceaaGreatDoor
open Go.RowKit
namespace Pl
theorem chosF_at {u : Uni} {ch : List Int} {F : Int × Int} (hn : ch.length = u.length) (h : chosF u ch = F) : ((∀ k, k < ch.length → chosI u ch k = true) → F = (0, 0)) ∧ ∀ k, k < ch.length → chosI u ch k = false → F = (3, -4) := by
  unfold chosF at h
  rw [if_neg (fun e => e hn)] at h
  refine ⟨fun g => by rw [if_pos g] at h; exact h.symm, fun k hk e => ?_⟩
  rw [if_neg (fun g => by rw [g k hk] at e; cases e)] at h
  exact h.symm
theorem chosI_at {u : Uni} {ch : List Int} {k : Nat} (h : k < ch.length) (g : k < u.length) : chosI u ch k = (decide (-1 ≤ ch[k]) && decide (ch[k] < (u[k].length : Int))) := by unfold chosI; rw [dif_pos h, dif_pos g]
theorem upto_succ {p : Nat → Bool} {k : Nat} (h : ∀ j, j < k → p j = true) (e : p k = true) : ∀ j, j < k + 1 → p j = true := fun j hj => by
  by_cases c : j = k
  · subst c; exact e
  · exact h j (by omega)
end Pl
theorem PkAt_len {w : World} {u : Pl.Uni} {a : Option Addr} {c : Nat} (h : UIn w u a c) {k : Nat} (hk : k < u.length) : u[k].length ≤ 9223372036854775807 := by
  obtain ⟨b, off, _, _, hat⟩ := h.at (by omega)
  obtain ⟨a1, c1, I⟩ := hat k hk
  exact I.rs.len
/-- The cells of a list of ints. -/
theorem Sl.cellsAt {w : World} {a : Option Addr} {c : Nat} {l : List Int} (h : Sl w a l.length c 1 (intVals l)) (h0 : 0 < l.length) : ∃ b off, a = some ⟨b, off, none⟩ ∧ b < w.heap.size ∧ ∀ k (hk : k < l.length), w.cell? ⟨b, off + k, none⟩ = some (.int .i64 l[k]) := by
  rcases h.mem with h1 | ⟨b, off, e, hlt, hc⟩
  · have := congrArg List.length h1
    rw [intVals_length] at this
    simp at this
    rw [this] at h0; simp at h0
  · exact ⟨b, off, e, hlt, fun k hk => hc k _ (intVals_get l k hk)⟩

set_option maxRecDepth 100000 in
set_option maxHeartbeats 4000000 in
theorem sChos_any (u : Pl.Uni) (ch : List Int) (a b : Option Addr) (c d : Nat) (w : World) (h : UIn w u a c) (h2 : Sl w b ch.length d 1 (intVals ch)) :
    Calls Tryz.prog 19 #[.agg #[.slice a u.length c], .slice b ch.length d] w fun e w' => e = .returned (fltV (Pl.chosF u ch)) ∧ Below w.heap.size w w' := by
  have hm := h.len
  have hm2 := h2.len
  obtain ⟨F, hF⟩ : ∃ F, Pl.chosF u ch = F := ⟨_, rfl⟩
  rw [hF]
  have H := Lib.hid h
  have K := Lib.hid h2
  clear h h2
  by_cases hn : ch.length = u.length
  · have HF := Lib.hid (Pl.chosF_at hn hF)
    have t1 : ((ch.length : Int) == (u.length : Int)) = true := by simp; omega
    have t2 : ((ch.length : Int) != (u.length : Int)) = false := by simp; omega
    have t1' : (ch.length == u.length) = true := by simp; omega
    have t2' : (ch.length != u.length) = false := by simp; omega
    clear hF
    go_enter Tryz.func19, Tryz.ntmps19
    go_wp2_with fail
    go_loopw [16] (fun i wr => ∃ k : Nat, k ≤ ch.length ∧ i = .int .i64 k ∧ Hid (∀ j, j < k → Pl.chosI u ch j = true) ∧ Below (w.heap.size + 2) ((w.alloc (.cells #[.slice a u.length c] 24)).alloc (.cells #[.int .i64 0, .int .i64 0] 30)) wr) (fun i _ => ch.length - (intOf i).toNat)
    case atStart => exact ⟨0, Nat.zero_le _, rfl, Lib.hid (fun _ h => absurd h (by omega)), Below.refl _ _⟩
    case round =>
      obtain ⟨k, hk, rfl, hu, hb⟩ := hrel
      have B1 : Below w.heap.size w wr := bcall (by go_grown) hb (by simp)
      have s1 : w.heap.size ≤ wr.heap.size := B1.size
      have HB := hb
      have q0 : w.heap.size + 2 ≤ wr.heap.size := by have z := hb.size; simp at z; omega
      have X : Bk wr w.heap.size [.slice a u.length c] := ((Bk.new (cs := [.slice a u.length c]) _ _ rfl).alloc _).below hb (by simp)
      have R : Bk wr (w.heap.size + 1) [.int .i64 0, .int .i64 0] := (Bk.new (cs := [.int .i64 0, .int .i64 0]) _ _ (by simp)).below hb (by simp)
      by_cases hlt2 : k < ch.length
      · obtain ⟨b1, off, rfl, hlt, hat⟩ := (H.out.below B1 (Nat.le_refl _)).at (by omega)
        obtain ⟨a1, c1, I⟩ := hat k (by omega)
        obtain ⟨e0, -⟩ := id I
        clear hat I
        obtain ⟨b2, off2, rfl, hlt3, hat2⟩ := Sl.cellsAt (K.out.below B1 (Nat.le_refl _)) (by omega)
        have f0 := hat2 k hlt2
        clear hat2
        have tz : decide (k < ch.length) = true := by simp; omega
        have ty : decide ((k : Int) < (ch.length : Int)) = true := by simp; omega
        have kL : k < u.length := by omega
        have HC := Lib.hid (Pl.chosI_at (u := u) hlt2 kL)
        have hl2 : (u[k].length : Int) ≤ 9223372036854775807 := by have := (PkAt_len (H.out.below B1 (Nat.le_refl _)) kL); omega
        generalize u[k] = l at *
        obtain ⟨x, hx⟩ : ∃ x, ch[k] = x := ⟨_, rfl⟩
        rw [hx] at f0 HC
        clear hx
        by_cases x1 : x < -1
        · have t3 := decide_eq_true x1
          have E := Lib.hid (HF.out.2 k hlt2 (by rw [HC.out]; simp; omega))
          clear x1 HC hu HF
          obtain ⟨X_c, X_f, X_l⟩ := id X
          obtain ⟨R_c, R_f, R_l⟩ := id R
          go_wp2_with fail
          refine bodyPost_ret (v := .agg #[.int .i64 3, .int .i64 (-4)]) (by simp [results, Tryz.results19, go_sem, R_c]) rfl ⟨by rw [E.out], by go_grown⟩
        · have t3 := decide_eq_false x1
          by_cases x2 : (l.length : Int) ≤ x
          · have t4 := decide_eq_true x2
            have E := Lib.hid (HF.out.2 k hlt2 (by rw [HC.out]; simp; omega))
            clear x1 x2 HC hu HF
            obtain ⟨X_c, X_f, X_l⟩ := id X
            obtain ⟨R_c, R_f, R_l⟩ := id R
            go_wp2_with fail
            refine bodyPost_ret (v := .agg #[.int .i64 3, .int .i64 (-4)]) (by simp [results, Tryz.results19, go_sem, R_c]) rfl ⟨by rw [E.out], by go_grown⟩
          · have t4 := decide_eq_false x2
            have E := Lib.hid (Pl.upto_succ hu.out (by rw [HC.out]; simp; omega))
            clear x1 x2 HC hu HF
            obtain ⟨X_c, X_f, X_l⟩ := id X
            obtain ⟨R_c, R_f, R_l⟩ := id R
            go_wp2_with fail
            go_roundw
            case rel => exact ⟨k + 1, hlt2, by go_num, E, HB⟩
            case measure => simp [intOf]; omega
      · have E := Lib.hid (HF.out.1 (fun j hj => hu.out j (by omega)))
        obtain ⟨X_c, X_f, X_l⟩ := X
        obtain ⟨R_c, R_f, R_l⟩ := R
        have t3 : decide ((k : Int) < (ch.length : Int)) = false := by simp; omega
        have t4 : decide (k < ch.length) = false := by simp; omega
        go_wp2_with fail
        refine bodyPost_ret (v := .agg #[.int .i64 0, .int .i64 0]) (by simp [results, Tryz.results19, go_sem, R_c]) rfl ⟨by rw [E.out], by go_grown⟩
  · have E : F = (9, -3) := by rw [← hF]; unfold Pl.chosF; rw [if_pos hn]
    subst E
    have t1 : ((ch.length : Int) == (u.length : Int)) = false := by simp; omega
    have t2 : ((ch.length : Int) != (u.length : Int)) = true := by simp; omega
    have t1' : (ch.length == u.length) = false := by simp; omega
    have t2' : (ch.length != u.length) = true := by simp; omega
    clear hF hn
    go_enter Tryz.func19, Tryz.ntmps19
    go_wp2_with fail
    refine bodyPost_ret (v := .agg #[.int .i64 9, .int .i64 (-3)]) (by simp [results, Tryz.results19, go_sem]) rfl ⟨rfl, by go_grown⟩
end Go.Proofs.YtgngehfgcogceaaGreatDoor

end
section
/- Contracts of the reference: decimal digits; the part before a byte; canonical numbers. -/
namespace Go.Proofs.YtgngehfgcogceaaGreatDoor
open Go.RowKit

namespace Pl
theorem ba_app (a b : List UInt8) : (⟨a.toArray⟩ : ByteArray) ++ ⟨b.toArray⟩ = ⟨(a ++ b).toArray⟩ := by
  apply ByteArray.ext
  simp
end Pl

end Go.Proofs.YtgngehfgcogceaaGreatDoor

end
section
/- Contracts: the text of a version, by the program and by the reference. -/
namespace Go.Proofs.YtgngehfgcogceaaGreatDoor
open Go.RowKit

namespace Pl
theorem mkS_app (a b : List UInt8) : mkS a ++ mkS b = mkS (a ++ b) := ba_app a b
theorem mkS_size (l : List UInt8) : (mkS l).size = l.length := by show l.toArray.size = _; simp
theorem dot_mkS : (⟨#[46]⟩ : ByteArray) = mkS [46] := rfl
theorem numT_mkS (v : Ver) : ((((mkS (digS v.maj) ++ (⟨#[46]⟩ : ByteArray)) ++ mkS (digS v.min)) ++ (⟨#[46]⟩ : ByteArray)) ++ mkS (digS v.pat)) = mkS (numT v) := by
  rw [dot_mkS, mkS_app, mkS_app, mkS_app, mkS_app]; unfold numT; simp
theorem join_rest (x : List UInt8) (l : List (List UInt8)) : Lib.join (x :: l) [46] = x ++ restT l := by
  unfold Lib.join restT
  induction l generalizing x with
  | nil => simp [List.intercalate]
  | cons y l ih =>
    have := ih y
    simp only [List.intercalate, List.intersperse_cons_cons, List.flatten_cons, List.flatMap_cons] at this ⊢
    rw [this]; simp
theorem pre_join {l : List (List UInt8)} (h : l ≠ []) : 45 :: Lib.join l [46] = preT l := by
  cases l with
  | nil => exact absurd rfl h
  | cons x l => rw [join_rest]; rfl
theorem digS_size {n : Int} (h : inB n 0 1000000000 = true) : (mkS (digS n)).size ≤ 10 := by
  have := inB_true.1 h
  rw [mkS_size]; exact dS_len10 (by omega)
theorem ids_len {v : Ver} (h : v.Ok) : (preT (v.pre.map bsl)).length ≤ 36 := by
  have l4 := preT_len (v.pre.map bsl) (fun x hx => by
    obtain ⟨s, hs, rfl⟩ := List.mem_map.1 hx
    exact (identB_iff.1 (h.i s hs)).2.1)
  have := h.n
  simp only [List.length_map] at l4
  omega
end Pl

theorem Join_any (xs : List ByteArray) (oa : Option Addr) (c : Nat) (w : World) (hs : Sl w oa xs.length c 1 (strVals xs)) (hne : xs ≠ []) (hn : xs.length ≤ 1048576) (hl : (Lib.join (xs.map Pl.bsl) [46]).length ≤ 1048576) :
    Calls Tryz.prog 35 #[.slice oa xs.length c, .string (⟨#[46]⟩ : ByteArray)] w fun e w' => e = .returned (.string (Pl.mkS (Lib.join (xs.map Pl.bsl) [46]))) ∧ Below w.heap.size w w' := by
  rcases hs.mem with h0 | ⟨b, off, rfl, hlt, hc⟩
  · exact absurd (by simpa [strVals] using h0) hne
  · exact Tryz.strings_Join b off c xs (⟨#[46]⟩ : ByteArray) w (fun j x hx => hc j _ (by unfold strVals; rw [List.getElem?_map, hx]; rfl)) hlt (by omega) hs.hcap (by show (Lib.join (xs.map Pl.bsl) [46]).length ≤ _; omega)

/-- The text of a version, if it is valid. -/
def Pl.fmtV (v : Pl.Ver) : ByteArray := if (Pl.vrF v).1 ≠ 0 then Pl.mkS [] else Pl.mkS (Pl.verT v)

set_option maxHeartbeats 1000000 in
theorem Format_bad (v : Pl.Ver) (a : Option Addr) (c : Nat) (w : World) (h : VIn w v a c) (hbad : (Pl.vrF v).1 ≠ 0) :
    Calls Tryz.prog 12 #[verV v a c] w fun e w' => e = .returned (.tuple #[.string (Pl.fmtV v), fltV (Pl.vrF v)]) ∧ Below w.heap.size w w' := by
  have H := Lib.hid h
  have E : Pl.fmtV v = ⟨#[]⟩ := by unfold Pl.fmtV; rw [if_pos hbad]; rfl
  rw [E]
  obtain ⟨F, hF⟩ : ∃ F, Pl.vrF v = F := ⟨_, rfl⟩
  have HF := Lib.hid hF
  rw [hF] at hbad ⊢
  obtain ⟨f1, f2⟩ := F
  have u1 := bneT hbad
  have u2 := beqF hbad
  clear hbad hF E h
  go_enter Tryz.func12, Tryz.ntmps12
  go_wp2_with fail
  refine (Validate_any v a c _ (H.out.below (by go_grown) (Nat.le_refl _))).mono ?_
  rw [HF.out]
  rintro e w1 ⟨rfl, hb1⟩
  have B1 : Below w.heap.size w w1 := bcall (by go_grown) hb1 (by go_size)
  have rx : Box2 w1 (w.heap.size + 1) (.int .i64 0) (.int .i64 0) := (Box2.newAt (by simp)).below hb1 (by simp)
  have z2 := rx.lt
  obtain ⟨C0, C1, D0, D1, -⟩ := rx
  clear hb1
  go_wp2_with fail
  go_region
  go_wp2_with fail
  obtain ⟨R0, R1, -, -, -⟩ := (Box2.mk C0 C1 D0 D1 z2).set (.int .i64 f1) (.int .i64 f2)
  exact bodyPost_ret (v := .tuple #[.string ⟨#[]⟩, .agg #[.int .i64 f1, .int .i64 f2]]) (by simp [results, Tryz.results12, go_sem, R0, R1, z2]) rfl ⟨rfl, by go_grown⟩

set_option maxHeartbeats 2000000 in
theorem Format_good (v : Pl.Ver) (a : Option Addr) (c : Nat) (w : World) (h : VIn w v a c) (ok : v.Ok) (E : Env w) :
    Calls Tryz.prog 12 #[verV v a c] w fun e w' => e = .returned (.tuple #[.string (Pl.fmtV v), fltV (Pl.vrF v)]) ∧ Below w.heap.size w w' := by
  have H := Lib.hid h
  have HE := Lib.hid E
  have OK := Lib.hid ok
  have HF := Lib.hid (Pl.vrF_ok ok)
  have m1 := Pl.inT ok.m1
  have m2 := Pl.inT ok.m2
  have m3 := Pl.inT ok.m3
  have s1 := Pl.digS_size ok.m1
  have s2 := Pl.digS_size ok.m2
  have s3 := Pl.digS_size ok.m3
  have hn := ok.n
  have ET := Lib.hid (show Pl.fmtV v = Pl.mkS (Pl.numT v) ++ Pl.mkS (Pl.preT (v.pre.map Pl.bsl)) by unfold Pl.fmtV; rw [HF.out, if_neg (by decide), Pl.mkS_app]; rfl)
  have EN := Lib.hid (Pl.numT_mkS v)
  have k1 : ∀ s : ByteArray, (s ++ (⟨#[46]⟩ : ByteArray)).size = s.size + 1 := fun s => ByteArray.size_append
  have k2 : ∀ s t : ByteArray, (s ++ t).size = s.size + t.size := fun s t => ByteArray.size_append
  rw [HF.out]
  clear h ok E
  obtain ⟨S1, h1⟩ : ∃ S, Pl.mkS (Pl.digS v.maj) = S := ⟨_, rfl⟩
  obtain ⟨S2, h2⟩ : ∃ S, Pl.mkS (Pl.digS v.min) = S := ⟨_, rfl⟩
  obtain ⟨S3, h3⟩ : ∃ S, Pl.mkS (Pl.digS v.pat) = S := ⟨_, rfl⟩
  rw [h1] at s1
  rw [h2] at s2
  rw [h3] at s3
  rw [h1, h2, h3] at EN
  have q1 : (S1.size : Int) ≤ 8388608 := by omega
  have q2 : (S2.size : Int) ≤ 8388608 := by omega
  have q3 : (S3.size : Int) ≤ 8388608 := by omega
  have q4 : ((S1 ++ (⟨#[46]⟩ : ByteArray)).size : Int) ≤ 8388608 := by rw [k1]; omega
  have q5 : (((S1 ++ (⟨#[46]⟩ : ByteArray)) ++ S2).size : Int) ≤ 8388608 := by rw [k2, k1]; omega
  have q6 : ((((S1 ++ (⟨#[46]⟩ : ByteArray)) ++ S2) ++ (⟨#[46]⟩ : ByteArray)).size : Int) ≤ 8388608 := by rw [k1, k2, k1]; omega
  have q8 : (((((S1 ++ (⟨#[46]⟩ : ByteArray)) ++ S2) ++ (⟨#[46]⟩ : ByteArray)) ++ S3).size : Int) ≤ 100 := by rw [k2, k1, k2, k1]; omega
  have I1 := Lib.hid (show ∀ W, Env W → Calls Tryz.prog 23 #[.int .i64 v.maj] W fun e w' => e = .returned (.string S1) ∧ Below W.heap.size W w' from fun W e => h1 ▸ Itoa_any v.maj W (by omega) (by omega) e)
  have I2 := Lib.hid (show ∀ W, Env W → Calls Tryz.prog 23 #[.int .i64 v.min] W fun e w' => e = .returned (.string S2) ∧ Below W.heap.size W w' from fun W e => h2 ▸ Itoa_any v.min W (by omega) (by omega) e)
  have I3 := Lib.hid (show ∀ W, Env W → Calls Tryz.prog 23 #[.int .i64 v.pat] W fun e w' => e = .returned (.string S3) ∧ Below W.heap.size W w' from fun W e => h3 ▸ Itoa_any v.pat W (by omega) (by omega) e)
  clear h1 h2 h3 k1 k2
  go_enter Tryz.func12, Tryz.ntmps12
  go_wp2_with fail
  refine (Validate_any v a c _ (H.out.below (by go_grown) (Nat.le_refl _))).mono ?_
  rw [HF.out]
  rintro e w1 ⟨rfl, hb1⟩
  have B1 : Below w.heap.size w w1 := bcall (by go_grown) hb1 (by go_size)
  have VB : Blk w1 w.heap.size [.int .i64 v.maj, .int .i64 v.min, .int .i64 v.pat, .slice a v.pre.length c] := ((Blk.new _ _ 48 (by simp)).alloc _).below hb1 (by go_size)
  have FB : Box2 w1 (w.heap.size + 1) (.int .i64 0) (.int .i64 0) := (Box2.newAt (by simp)).below hb1 (by simp)
  clear hb1
  have e0 := VB.c 0 _ rfl
  have e1 := VB.c 1 _ rfl
  have e2 := VB.c 2 _ rfl
  have e3 := VB.c 3 _ rfl
  have e4 := VB.lt
  go_wp2_with fail
  refine wp_region_ord [0, 1, 4, 5, 9, 10, 2, 3, 6, 7, 8, 11, 12, 13] (by kernel_rfl) (by kernel_rfl) ?_
  repeat (refine wpI_rd rfl rfl ?_; go_big_quiet_step (fail); refine wpQuiet_nil ?_)
  refine wpI_call (f := 23) (args := #[.int .i64 v.maj]) rfl rfl rfl (by simp [go_sem]) ?_
  have BW := (B1.alloc B1.size (.cells #[.int .i64 0, .int .i64 0] 30)).drew
  refine (I1.out _ (HE.out.below BW (Nat.le_refl _))).mono ?_
  rintro e w2 ⟨rfl, hb2⟩
  refine ⟨_, rfl, hb2, ?_⟩
  have B2 : Below w.heap.size w w2 := bcall BW hb2 BW.size
  have VB2 := ((VB.alloc (.cells #[.int .i64 0, .int .i64 0] 30)).drew).below hb2 ((VB.alloc _).drew).lt
  have FB2 := ((FB.alloc (.cells #[.int .i64 0, .int .i64 0] 30)).drew).below hb2 ((FB.alloc _).drew).lt
  clear hb2 BW e0 e1 e2 e3 e4 VB FB
  try simp only [Act.put, List.setIfInBounds_toArray, List.set_cons_zero, List.set_cons_succ]
  repeat (refine wpI_rd rfl rfl ?_; go_big_quiet_step (fail); refine wpQuiet_nil ?_)
  refine wpI_call (f := 23) (args := #[.int .i64 v.min]) rfl rfl rfl (by simp [go_sem]) ?_
  refine (I2.out _ (HE.out.below B2 (Nat.le_refl _))).mono ?_
  rintro e w3 ⟨rfl, hb3⟩
  refine ⟨_, rfl, hb3, ?_⟩
  have B3 : Below w.heap.size w w3 := bcall B2 hb3 B2.size
  have VB3 := VB2.below hb3 VB2.lt
  have FB3 := FB2.below hb3 FB2.lt
  clear hb3 VB2 FB2
  try simp only [Act.put, List.setIfInBounds_toArray, List.set_cons_zero, List.set_cons_succ]
  repeat (refine wpI_rd rfl rfl ?_; go_big_quiet_step (fail); refine wpQuiet_nil ?_)
  refine wpI_call (f := 23) (args := #[.int .i64 v.pat]) rfl rfl rfl (by simp [go_sem]) ?_
  refine (I3.out _ (HE.out.below B3 (Nat.le_refl _))).mono ?_
  rintro e w4 ⟨rfl, hb4⟩
  refine ⟨_, rfl, hb4, ?_⟩
  have B4 : Below w.heap.size w w4 := bcall B3 hb4 B3.size
  have VB4 := VB3.below hb4 VB3.lt
  have FB4 := FB3.below hb4 FB3.lt
  clear hb4 VB3 FB3
  try simp only [Act.put, List.setIfInBounds_toArray, List.set_cons_zero, List.set_cons_succ]
  repeat (refine wpI_rd rfl rfl ?_; go_big_quiet_step (fail); refine wpQuiet_nil ?_)
  refine wpI_nil ?_
  try simp only [Act.put, List.setIfInBounds_toArray, List.set_cons_zero, List.set_cons_succ]
  have e0 := VB4.c 0 _ rfl
  have e1 := VB4.c 1 _ rfl
  have e2 := VB4.c 2 _ rfl
  have e3 := VB4.c 3 _ rfl
  have e4 := VB4.lt
  generalize (((S1 ++ (⟨#[46]⟩ : ByteArray)) ++ S2) ++ (⟨#[46]⟩ : ByteArray)) ++ S3 = T at *
  have q9 : (T.size : Int) ≤ 8388608 := by omega
  clear I1 I2 I3 q1 q2 q3 q4 q5 q6 s1 s2 s3
  by_cases hp : v.pre = []
  · have p1 : v.pre.length = 0 := by rw [hp]; rfl
    have t1 : decide (0 < v.pre.length) = false := by simp [p1]
    have t2 : (v.pre.length : Int) ≤ 0 := by omega
    have ER := Lib.hid (show T = Pl.fmtV v by rw [ET.out, EN.out, Pl.mkS_app, hp]; simp [Pl.preT])
    clear hp p1
    obtain ⟨C0, C1, D0, D1, z2⟩ := FB4
    go_wp2_with fail
    obtain ⟨R0, R1, -, -, -⟩ := (Box2.mk C0 C1 D0 D1 z2).set (.int .i64 0) (.int .i64 0)
    exact bodyPost_ret (v := .tuple #[.string T, .agg #[.int .i64 0, .int .i64 0]]) (by simp [results, Tryz.results12, go_sem, R0, R1]) rfl ⟨by rw [ER.out], by go_grown⟩
  · have p1 : 0 < v.pre.length := List.length_pos_iff.2 hp
    have hj : Pl.bsl (⟨#[45]⟩ : ByteArray) ++ Lib.join (v.pre.map Pl.bsl) [46] = Pl.preT (v.pre.map Pl.bsl) := Pl.pre_join (by simpa using hp)
    have jl : (Lib.join (v.pre.map Pl.bsl) [46]).length ≤ 36 := by
      have h1 := Pl.ids_len OK.out
      rw [← hj, List.length_append] at h1
      omega
    obtain ⟨J, hJ⟩ : ∃ J, Pl.mkS (Lib.join (v.pre.map Pl.bsl) [46]) = J := ⟨_, rfl⟩
    have js : J.size ≤ 36 := by rw [← hJ, Pl.mkS_size]; exact jl
    have r1 : (J.size : Int) ≤ 8388608 := by omega
    have r2 : (((⟨#[45]⟩ : ByteArray) ++ J).size : Int) ≤ 8388608 := by rw [ByteArray.size_append]; have : ((⟨#[45]⟩ : ByteArray)).size = 1 := rfl; omega
    have ER := Lib.hid (show T ++ ((⟨#[45]⟩ : ByteArray) ++ J) = Pl.fmtV v by
      rw [ET.out, EN.out, ← hJ, show (⟨#[45]⟩ : ByteArray) = Pl.mkS (Pl.bsl (⟨#[45]⟩ : ByteArray)) from rfl, Pl.mkS_app (Pl.bsl (⟨#[45]⟩ : ByteArray)), hj])
    have IJ := Lib.hid (show ∀ W, Below w.heap.size w W → Calls Tryz.prog 35 #[.slice a v.pre.length c, .string (⟨#[46]⟩ : ByteArray)] W fun e w' => e = .returned (.string J) ∧ Below W.heap.size W w' from fun W hb => hJ ▸ Join_any v.pre a c W (H.out.sl.below hb (Nat.le_refl _)) hp (by omega) (by omega))
    clear hp hj hJ jl
    go_wp2_with fail
    refine (IJ.out _ B4).mono ?_
    rintro e w5 ⟨rfl, hb5⟩
    have B5 : Below w.heap.size w w5 := bcall B4 hb5 B4.size
    have FB5 := FB4.below hb5 FB4.lt
    obtain ⟨C0, C1, D0, D1, z2⟩ := FB5
    clear hb5 FB4 e0 e1 e2 e3 e4 VB4
    go_wp2_with fail
    obtain ⟨R0, R1, -, -, -⟩ := (Box2.mk C0 C1 D0 D1 z2).set (.int .i64 0) (.int .i64 0)
    exact bodyPost_ret (v := .tuple #[.string (T ++ ((⟨#[45]⟩ : ByteArray) ++ J)), .agg #[.int .i64 0, .int .i64 0]]) (by simp [results, Tryz.results12, go_sem, R0, R1]) rfl ⟨by rw [ER.out], by go_grown⟩
theorem Format_any (v : Pl.Ver) (a : Option Addr) (c : Nat) (w : World) (h : VIn w v a c) (E : Env w) :
    Calls Tryz.prog 12 #[verV v a c] w fun e w' => e = .returned (.tuple #[.string (Pl.fmtV v), fltV (Pl.vrF v)]) ∧ Below w.heap.size w w' := by
  rcases Pl.vrF_cases v with ⟨-, ok⟩ | hb
  · exact Format_good v a c w h ok E
  · exact Format_bad v a c w h hb
end Go.Proofs.YtgngehfgcogceaaGreatDoor

end
