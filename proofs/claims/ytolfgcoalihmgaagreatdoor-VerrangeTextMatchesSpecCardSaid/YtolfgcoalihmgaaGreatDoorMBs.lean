/- Texts joined. -/
import Derived.Test.YtolfgcoalihmgaaGreatDoorMWh
import Derived.Test.YtolfgcoalihmgaaGreatDoorMKn
namespace Go.Proofs.YtolfgcoalihmgaaGreatDoor
section
open Go.RowKit
namespace Pl
theorem ref_no1 {s : List UInt8} (h : untilZ 46 46 s = []) : refParse s = none := by unfold refParse refTry; rw [if_pos h]
theorem ref_no2 {s z : List UInt8} (h : untilZ 46 46 s = z) (h1 : z ≠ []) (h2 : untilZ 46 46 (z.drop 1) = []) : refParse s = none := by unfold refParse refTry; rw [h, if_neg h1, if_pos h2]
theorem ref_no3 {s z y : List UInt8} (h : untilZ 46 46 s = z) (h1 : z ≠ []) (h2 : untilZ 46 46 (z.drop 1) = y) (h3 : y ≠ []) (h4 : (untilZ 45 46 (y.drop 1)).head? = some 46) : refParse s = none := by
 unfold refParse refTry; rw [h, if_neg h1, h2, if_neg h3]; simp only; rw [if_pos h4]
def preP (r : List UInt8) : List (List UInt8) := preL r.length r
theorem preL_fuel : ∀ (f : Nat) (r : List UInt8), r.length ≤ f → preL f r = preP r
 | 0, r, h => by rw [List.eq_nil_of_length_eq_zero (by omega : r.length = 0)]; rfl
 | f + 1, [], _ => rfl
 | f + 1, c :: r, h => by
   have hl : (untilZ 46 46 r).length ≤ r.length := by
    have := congrArg List.length (until_app 46 46 r)
    rw [List.length_append] at this; omega
   unfold preP
   rw [List.length_cons, preL, preL, preL_fuel f _ (by simp at h; omega), preL_fuel r.length _ hl]
theorem preP_cons (c : UInt8) (r : List UInt8) : preP (c :: r) = untilA 46 46 r :: preP (untilZ 46 46 r) := by
 have hl : (untilZ 46 46 r).length ≤ r.length := by
  have := congrArg List.length (until_app 46 46 r)
  rw [List.length_append] at this; omega
 unfold preP
 rw [List.length_cons, preL, preL_fuel _ _ hl]; rfl
theorem preP_len (r : List UInt8) : (preP r).length ≤ r.length := by
 have : ∀ (f : Nat) (r : List UInt8), r.length ≤ f → (preP r).length ≤ r.length := by
  intro f
  induction f with
  | zero => intro r h; rw [List.eq_nil_of_length_eq_zero (by omega : r.length = 0)]; simp [preP, preL]
  | succ f ih =>
    intro r h
    cases r with
    | nil => simp [preP, preL]
    | cons c r =>
      have hl : (untilZ 46 46 r).length ≤ r.length := by
       have := congrArg List.length (until_app 46 46 r)
       rw [List.length_append] at this; omega
      rw [preP_cons, List.length_cons, List.length_cons]
      have := ih (untilZ 46 46 r) (by simp at h; omega)
      omega
 exact this _ r nle
theorem preP_size (r : List UInt8) : ∀ x ∈ preP r, x.length ≤ r.length := by
 have : ∀ (f : Nat) (r : List UInt8), r.length ≤ f → ∀ x ∈ preP r, x.length ≤ r.length := by
  intro f
  induction f with
  | zero => intro r h; rw [List.eq_nil_of_length_eq_zero (by omega : r.length = 0)]; intro x hx; cases hx
  | succ f ih =>
    intro r h
    cases r with
    | nil => intro x hx; cases hx
    | cons c r =>
      have hl := congrArg List.length (until_app 46 46 r)
      rw [List.length_append] at hl
      intro x hx
      rw [preP_cons] at hx
      simp only [List.length_cons] at h ⊢
      rcases List.mem_cons.1 hx with rfl | hx
      · omega
      · have := ih (untilZ 46 46 r) (by omega) x hx
        omega
 exact this _ r nle
theorem ref_last {s z y : List UInt8} (h : untilZ 46 46 s = z) (h1 : z ≠ []) (h2 : untilZ 46 46 (z.drop 1) = y) (h3 : y ≠ []) (h4 : (untilZ 45 46 (y.drop 1)).head? ≠ some 46) :
 refParse s = if (vrF ⟨numOf (untilA 46 46 s), numOf (untilA 46 46 (z.drop 1)), numOf (untilA 45 46 (y.drop 1)), (preP (untilZ 45 46 (y.drop 1))).map mkS⟩).1 = 0 then some ⟨numOf (untilA 46 46 s), numOf (untilA 46 46 (z.drop 1)), numOf (untilA 45 46 (y.drop 1)), (preP (untilZ 45 46 (y.drop 1))).map mkS⟩ else none := by
 unfold refParse refTry; rw [h, if_neg h1, h2, if_neg h3]; simp only; rw [if_neg h4]; rfl
theorem until_len (x y : Int) (l : List UInt8) : (untilA x y l).length ≤ l.length ∧ (untilZ x y l).length ≤ l.length := by
 have := congrArg List.length (until_app x y l)
 rw [List.length_append] at this; omega
theorem numOf_rng (l : List UInt8) : -1 ≤ numOf l ∧ numOf l ≤ 1000000000 := by
 unfold numOf
 split
 · rename_i h
   have h1 : digsB l = true := by
    have := h.1
    simp only [canonB, Bool.and_eq_true] at this
    exact this.1.1
   have := valL_bounds h1
   omega
 · omega
def refV (s : List UInt8) : Ver := (refParse s).getD Ver.zero
def refOk (s : List UInt8) : Bool := (refParse s).isSome
end Pl
def RVerB (v : Pl.Ver) (b : Bool) (w : World) (e : Ending) (w' : World) : Prop := ∃ a c, e = .returned (.tuple #[verV v a c, .bool b]) ∧ VIn w' v a c ∧ Below w.heap.size w w'
theorem until_cut (X : ByteArray) (l : List UInt8) (hX : X = Pl.mkS l) (x y : Int) (w : World) (hl : l.length ≤ 1048576) :
 Calls Tryz.prog 123 #[.string (X.extract 1 X.size), .int .u8 x, .int .u8 y] w fun e w' => e = .returned (.tuple #[.string (Pl.mkS (Pl.untilA x y (l.drop 1))), .string (Pl.mkS (Pl.untilZ x y (l.drop 1)))]) ∧ ∃ q, w' = w.drewN q := by
 have e : X.extract 1 X.size = Pl.mkS (l.drop 1) := by rw [← Pl.mkS_drop, hX, Pl.bsl_mkS]
 rw [e]
 have := until_any (Pl.mkS (l.drop 1)) x y w (by rw [Pl.mkS_size, List.length_drop]; omega)
 rwa [Pl.bsl_mkS] at this
theorem str_none {X : ByteArray} {l : List UInt8} (hX : X = Pl.mkS l) (h : l = []) : X.toList = [] ∧ X.toList.isEmpty = true := by
 have : X.toList = [] := Pl.toList_nil (by rw [hX, Pl.mkS_size, h]; rfl)
 exact ⟨this, by rw [this]; rfl⟩
theorem str_some {X : ByteArray} {l : List UInt8} (hX : X = Pl.mkS l) (h : l ≠ []) : X.toList.isEmpty = false ∧ 1 ≤ (X.size : Int) ∧ 0 < X.size := by
 have hs : 0 < X.size := by rw [hX, Pl.mkS_size]; exact List.length_pos_iff.2 h
 exact ⟨Pl.toList_ne (by omega), by omega, hs⟩
def VLoop (w : World) (n1 n2 n3 : Int) (r0 : List UInt8) (s : Value) (wr : World) : Prop := ∃ (l : List (List UInt8)) (r : List UInt8) (o : Option Addr) (c : Nat), s = .string (Pl.mkS r) ∧ r.length ≤ 4096 ∧ l ++ Pl.preP r = Pl.preP r0 ∧ wr.ownsRow (w.heap.size + 2) 9 1 (.slice o l.length c) l.length (strVals (l.map Pl.mkS)) ∧
 Blk wr (w.heap.size + 1) [.int .i64 n1, .int .i64 n2, .int .i64 n3, .slice o l.length c] ∧ Blk wr w.heap.size [.int .i64 0, .int .i64 0, .int .i64 0, .slice none 0 0] ∧ Below w.heap.size w wr ∧ w.heap.size + 2 ≤ wr.heap.size
def strLen (v : Value) : Nat := match v with | .string s => s.size | _ => 0
theorem quiet_below {P : Program} {f : FuncId} {args : Array Value} {W : World} {v : Value} (h : Calls P f args W fun e w' => e = .returned v ∧ ∃ q, w' = W.drewN q) : Calls P f args W fun e w' => e = .returned v ∧ Below W.heap.size W w' :=
 h.mono fun _ _ ⟨h1, q, h2⟩ => ⟨h1, h2 ▸ below_drewN' (Below.refl _ _) q⟩
set_option maxRecDepth 100000 in
set_option maxHeartbeats 4000000 in
theorem VersionOf_any (s : ByteArray) (w : World) (hs : s.size ≤ 4096) :
 Calls Tryz.prog 150 #[.string s] w (RVerB (Pl.refV (Pl.bsl s)) (Pl.refOk (Pl.bsl s)) w) := by
 obtain ⟨L, hL⟩ : ∃ L, Pl.bsl s = L := ⟨_, rfl⟩
 have lL : L.length ≤ 4096 := by rw [← hL, Pl.bsl_len]; exact hs
 obtain ⟨z, hz⟩ : ∃ z, Pl.untilZ 46 46 L = z := ⟨_, rfl⟩
 have lz : z.length ≤ 4096 := by have := (Pl.until_len 46 46 L).2; rw [hz] at this; omega
 obtain ⟨X, hX⟩ : ∃ X, X = Pl.mkS z := ⟨_, rfl⟩
 obtain ⟨A, hA⟩ : ∃ A, A = Pl.mkS (Pl.untilA 46 46 L) := ⟨_, rfl⟩
 have U1 := Hd (show ∀ W, Calls Tryz.prog 123 #[.string s, .int .u8 46, .int .u8 46] W fun e w' => e = .returned (.tuple #[.string A, .string X]) ∧ ∃ q, w' = W.drewN q from fun W => by
  have := until_any s 46 46 W (by omega); rw [hL, hz, ← hX, ← hA] at this; exact this)
 rw [hL]
 by_cases h1 : z = []
 · have E : Pl.refParse L = none := Pl.ref_no1 (hz.trans h1)
   have E1 : Pl.refV L = Pl.Ver.zero := by unfold Pl.refV; rw [E]; rfl
   have E2 : Pl.refOk L = false := by unfold Pl.refOk; rw [E]; rfl
   obtain ⟨t1, t2⟩ := str_none hX h1
   rw [E1, E2]
   clear E E1 E2 h1 hz hX hA hL
   go_enter Tryz.func150, Tryz.ntmps150
   go_wp2_with (go_at_call 123; refine (U1.out _).mono ?_; rintro e w' ⟨rfl, q, rfl⟩)
   go_returns
   exact ⟨none, 0, rfl, VIn.zero _, by go_grown; exact below_drewN' (by go_grown) _⟩
 · obtain ⟨y, hy⟩ : ∃ y, Pl.untilZ 46 46 (z.drop 1) = y := ⟨_, rfl⟩
   have ly : y.length ≤ 4096 := by have := (Pl.until_len 46 46 (z.drop 1)).2; rw [hy, List.length_drop] at this; omega
   obtain ⟨Y, hY⟩ : ∃ Y, Y = Pl.mkS y := ⟨_, rfl⟩
   obtain ⟨C, hC⟩ : ∃ C, C = Pl.mkS (Pl.untilA 46 46 (z.drop 1)) := ⟨_, rfl⟩
   have U2 := Hd (show ∀ W, Calls Tryz.prog 123 #[.string (X.extract 1 X.size), .int .u8 46, .int .u8 46] W fun e w' => e = .returned (.tuple #[.string C, .string Y]) ∧ ∃ q, w' = W.drewN q from fun W => by
    have := until_cut X z hX 46 46 W (by omega); rw [hy, ← hY, ← hC] at this; exact this)
   obtain ⟨t1, t2, t3⟩ := str_some hX h1
   by_cases h2 : y = []
   · have E : Pl.refParse L = none := Pl.ref_no2 hz h1 (hy.trans h2)
     have E1 : Pl.refV L = Pl.Ver.zero := by unfold Pl.refV; rw [E]; rfl
     have E2 : Pl.refOk L = false := by unfold Pl.refOk; rw [E]; rfl
     obtain ⟨t4, t5⟩ := str_none hY h2
     rw [E1, E2]
     clear E E1 E2 h1 h2 hz hX hA hL hy hY hC
     go_enter Tryz.func150, Tryz.ntmps150
     go_wp2_with fail
     refine (U1.out _).mono ?_
     rintro e w' ⟨rfl, q, rfl⟩
     go_wp2_with fail
     refine (U2.out _).mono ?_
     rintro e w' ⟨rfl, q2, rfl⟩
     go_wp2_with fail
     go_returns
     exact ⟨none, 0, rfl, VIn.zero _, by go_grown; exact below_drewN' (by go_grown) _⟩
   · obtain ⟨r0, hr0⟩ : ∃ r, Pl.untilZ 45 46 (y.drop 1) = r := ⟨_, rfl⟩
     have lr : r0.length ≤ 4096 := by have := (Pl.until_len 45 46 (y.drop 1)).2; rw [hr0, List.length_drop] at this; omega
     obtain ⟨Z, hZ⟩ : ∃ Z, Z = Pl.mkS r0 := ⟨_, rfl⟩
     obtain ⟨D, hD⟩ : ∃ D, D = Pl.mkS (Pl.untilA 45 46 (y.drop 1)) := ⟨_, rfl⟩
     have U3 := Hd (show ∀ W, Calls Tryz.prog 123 #[.string (Y.extract 1 Y.size), .int .u8 45, .int .u8 46] W fun e w' => e = .returned (.tuple #[.string D, .string Z]) ∧ ∃ q, w' = W.drewN q from fun W => by
      have := until_cut Y y hY 45 46 W (by omega); rw [hr0, ← hZ, ← hD] at this; exact this)
     obtain ⟨t4, t5, t6⟩ := str_some hY h2
     have num : ∀ (S : ByteArray) (l : List UInt8), S = Pl.mkS l → l.length ≤ 4096 → ∀ W, Calls Tryz.prog 183 #[.string S, .int .i64 1000000000] W fun e w' => e = .returned (.int .i64 (Pl.numOf l)) ∧ W = w' := fun S l hS hl W => by
      have := NumberOf_any S W (by rw [hS, Pl.mkS_size]; omega)
      rwa [hS, Pl.bsl_mkS, ← hS] at this
     obtain ⟨n1, hn1⟩ : ∃ n, Pl.numOf (Pl.untilA 46 46 L) = n := ⟨_, rfl⟩
     obtain ⟨n2, hn2⟩ : ∃ n, Pl.numOf (Pl.untilA 46 46 (z.drop 1)) = n := ⟨_, rfl⟩
     obtain ⟨n3, hn3⟩ : ∃ n, Pl.numOf (Pl.untilA 45 46 (y.drop 1)) = n := ⟨_, rfl⟩
     have N1 := Hd (hn1 ▸ num A _ hA (by have := (Pl.until_len 46 46 L).1; omega))
     have N2 := Hd (hn2 ▸ num C _ hC (by have := (Pl.until_len 46 46 (z.drop 1)).1; rw [List.length_drop] at this; omega))
     have N3 := Hd (hn3 ▸ num D _ hD (by have := (Pl.until_len 45 46 (y.drop 1)).1; rw [List.length_drop] at this; omega))
     by_cases h3 : r0.head? = some 46
     · have E : Pl.refParse L = none := Pl.ref_no3 hz h1 hy h2 (by rw [hr0]; exact h3)
       have E1 : Pl.refV L = Pl.Ver.zero := by unfold Pl.refV; rw [E]; rfl
       have E2 : Pl.refOk L = false := by unfold Pl.refOk; rw [E]; rfl
       obtain ⟨t7, t8, t9⟩ := str_some hZ (by intro h; rw [h] at h3; cases h3)
       have hb : ((Z[0]'t9).toNat : Int) = 46 := by
        have h5 := Pl.head_get t9
        rw [show Pl.bsl Z = r0 by rw [hZ, Pl.bsl_mkS], h3] at h5
        simp only [Option.some.injEq] at h5
        rw [← h5]; rfl
       have t10 := beqT hb
       rw [E1, E2]
       clear E E1 E2 h1 h2 h3 hz hX hA hL hy hY hC hZ hD hb num hr0 hn1 hn2 hn3
       go_enter Tryz.func150, Tryz.ntmps150
       go_wp2_with fail
       refine (U1.out _).mono ?_
       rintro e w' ⟨rfl, q, rfl⟩
       go_wp2_with fail
       refine (U2.out _).mono ?_
       rintro e w' ⟨rfl, q2, rfl⟩
       go_wp2_with fail
       refine (U3.out _).mono ?_
       rintro e w' ⟨rfl, q3, rfl⟩
       go_wp2_with fail
       refine (N1.out _).mono ?_
       rintro e w' ⟨rfl, rfl⟩
       go_wp2_with fail
       refine (N2.out _).mono ?_
       rintro e w' ⟨rfl, rfl⟩
       go_wp2_with fail
       refine (N3.out _).mono ?_
       rintro e w' ⟨rfl, rfl⟩
       go_wp2_with fail
       go_returns
       exact ⟨none, 0, rfl, VIn.zero _, by go_grown; exact below_drewN' (by go_grown) _⟩
     · have E := Hd (Pl.ref_last hz h1 hy h2 (by rw [hr0]; exact h3))
       rw [hr0, hn1, hn2, hn3] at E
       have b1 := Pl.numOf_rng (Pl.untilA 46 46 L)
       have b2 := Pl.numOf_rng (Pl.untilA 46 46 (z.drop 1))
       have b3 := Pl.numOf_rng (Pl.untilA 45 46 (y.drop 1))
       rw [hn1] at b1
       rw [hn2] at b2
       rw [hn3] at b3
       have tz : (Z.toList = [] ∧ Z.toList.isEmpty = true) ∨ (Z.toList.isEmpty = false ∧ ∃ h : 0 < Z.size, ((Z[0].toNat : Int) == 46) = false) := by
        by_cases h0 : r0 = []
        · exact .inl (str_none hZ h0)
        · obtain ⟨t7, t8, t9⟩ := str_some hZ h0
          refine .inr ⟨t7, t9, beqF fun hb => h3 ?_⟩
          have h5 := Pl.head_get t9
          rw [show Pl.bsl Z = r0 by rw [hZ, Pl.bsl_mkS]] at h5
          rw [h5]
          congr 1
          rw [← UInt8.toNat_inj]; show _ = 46; omega
       have HZ := Hd hZ
       have PL := Hd (show (Pl.preP r0).length ≤ 4096 by have := Pl.preP_len r0; omega)
       clear h1 h2 h3 hz hX hA hL hy hY hC hZ hD num hr0 hn1 hn2 hn3
       go_enter Tryz.func150, Tryz.ntmps150
       go_wp2_with fail
       refine (U1.out _).mono ?_
       rintro e w' ⟨rfl, q, rfl⟩
       go_wp2_with fail
       refine (U2.out _).mono ?_
       rintro e w' ⟨rfl, q2, rfl⟩
       go_wp2_with fail
       refine (U3.out _).mono ?_
       rintro e w' ⟨rfl, q3, rfl⟩
       go_wp2_with fail
       refine (N1.out _).mono ?_
       rintro e w' ⟨rfl, rfl⟩
       go_wp2_with fail
       refine (N2.out _).mono ?_
       rintro e w' ⟨rfl, rfl⟩
       go_wp2_with fail
       refine (N3.out _).mono ?_
       rintro e w' ⟨rfl, rfl⟩
       have VB0 : Blk (((w.alloc (.cells #[.int .i64 0, .int .i64 0, .int .i64 0, .slice none 0 0] 24)).alloc (.cells #[.int .i64 0, .int .i64 0, .int .i64 0, .slice none 0 0] 24)).drewN (q + q2 + q3)) (w.heap.size + 1) [.int .i64 0, .int .i64 0, .int .i64 0, .slice none 0 0] := Blk.below (w := ((w.alloc (.cells #[.int .i64 0, .int .i64 0, .int .i64 0, .slice none 0 0] 24)).alloc (.cells #[.int .i64 0, .int .i64 0, .int .i64 0, .slice none 0 0] 24))) (B := w.heap.size + 2) (Blk.new _ [.int .i64 0, .int .i64 0, .int .i64 0, .slice none 0 0] 24 (by simp)) (below_drewN' (Below.refl _ _) _) (by omega)
       have RB0 : Blk (((w.alloc (.cells #[.int .i64 0, .int .i64 0, .int .i64 0, .slice none 0 0] 24)).alloc (.cells #[.int .i64 0, .int .i64 0, .int .i64 0, .slice none 0 0] 24)).drewN (q + q2 + q3)) w.heap.size [.int .i64 0, .int .i64 0, .int .i64 0, .slice none 0 0] := Blk.below (w := ((w.alloc (.cells #[.int .i64 0, .int .i64 0, .int .i64 0, .slice none 0 0] 24)).alloc (.cells #[.int .i64 0, .int .i64 0, .int .i64 0, .slice none 0 0] 24))) (B := w.heap.size + 2) ((Blk.new _ [.int .i64 0, .int .i64 0, .int .i64 0, .slice none 0 0] 24 rfl).alloc _) (below_drewN' (Below.refl _ _) _) (by omega)
       have B0 : Below w.heap.size w (((w.alloc (.cells #[.int .i64 0, .int .i64 0, .int .i64 0, .slice none 0 0] 24)).alloc (.cells #[.int .i64 0, .int .i64 0, .int .i64 0, .slice none 0 0] 24)).drewN (q + q2 + q3)) := below_drewN' (by go_grown) _
       have zs : (((w.alloc (.cells #[.int .i64 0, .int .i64 0, .int .i64 0, .slice none 0 0] 24)).alloc (.cells #[.int .i64 0, .int .i64 0, .int .i64 0, .slice none 0 0] 24)).drewN (q + q2 + q3)).heap.size = w.heap.size + 2 := by show (((w.alloc (.cells #[.int .i64 0, .int .i64 0, .int .i64 0, .slice none 0 0] 24)).alloc (.cells #[.int .i64 0, .int .i64 0, .int .i64 0, .slice none 0 0] 24))).heap.size = _; simp
       generalize (((w.alloc (.cells #[.int .i64 0, .int .i64 0, .int .i64 0, .slice none 0 0] 24)).alloc (.cells #[.int .i64 0, .int .i64 0, .int .i64 0, .slice none 0 0] 24))).drewN (q + q2 + q3) = W at *
       have VB := (((VB0.st 0 (.int .i64 n1)).st 1 (.int .i64 n2)).st 2 (.int .i64 n3))
       have RB := (((RB0.far (a := ⟨w.heap.size + 1, 0, none⟩) (by simp) (.int .i64 n1)).far (a := ⟨w.heap.size + 1, 1, none⟩) (by simp) (.int .i64 n2)).far (a := ⟨w.heap.size + 1, 2, none⟩) (by simp) (.int .i64 n3))
       have B3 : Below w.heap.size w (((W.setCell ⟨w.heap.size + 1, 0, none⟩ (.int .i64 n1)).setCell ⟨w.heap.size + 1, 1, none⟩ (.int .i64 n2)).setCell ⟨w.heap.size + 1, 2, none⟩ (.int .i64 n3)) := by go_grown
       have zs3 : (((W.setCell ⟨w.heap.size + 1, 0, none⟩ (.int .i64 n1)).setCell ⟨w.heap.size + 1, 1, none⟩ (.int .i64 n2)).setCell ⟨w.heap.size + 1, 2, none⟩ (.int .i64 n3)).heap.size = w.heap.size + 2 := by simp [zs]
       have f2 := VB0.c 2 _ rfl
       have f2f := VB0.f 2 (by simp)
       have f2l := VB0.lt
       have hloop : True := trivial
       rcases tz with ⟨t7, t8⟩ | ⟨t7, t9, t10⟩
       all_goals
        go_wp2_with fail
        generalize ((W.setCell ⟨w.heap.size + 1, 0, none⟩ (.int .i64 n1)).setCell ⟨w.heap.size + 1, 1, none⟩ (.int .i64 n2)).setCell ⟨w.heap.size + 1, 2, none⟩ (.int .i64 n3) = W3 at *
        clear f2 f2f f2l VB0 RB0 B0 zs hloop
        go_loopw [0] (fun s wr => VLoop w n1 n2 n3 r0 s wr) (fun s _ => strLen s)
        case atStart => exact ⟨[], r0, none, 0, by rw [HZ.out], lr, rfl, World.ownsRow_nil _ _ _ _, VB, RB, B3, by omega⟩
        case round =>
         obtain ⟨l, r, o, c, rfl, hr, hP, own, VB, RB, hbw, zw⟩ := hrel
         clear t7
         have HP := Hd hP
         have lP := Hd (show l.length ≤ 4096 by have := congrArg List.length hP; rw [List.length_append] at this; have := PL.out; omega)
         clear hP
         have l80 := lP.out
         obtain ⟨X, hX⟩ : ∃ X, X = Pl.mkS r := ⟨_, rfl⟩
         rw [← hX]
         cases r with
         | nil =>
           obtain ⟨t1, t2⟩ := str_none hX rfl
           have hPe : l = Pl.preP r0 := by rw [← HP.out]; simp [Pl.preP, Pl.preL]
           have ss : ∀ s ∈ l.map Pl.mkS, s.size ≤ 9223372036854775807 := fun s hs => by
            obtain ⟨x, hx, rfl⟩ := List.mem_map.1 hs
            rw [hPe] at hx
            have := Pl.preP_size r0 x hx
            rw [Pl.mkS_size]; omega
           have ct := VersionFault_any ⟨n1, n2, n3, l.map Pl.mkS⟩ o c wr ⟨(by rw [List.length_map]; exact Sl.own own), ss⟩
           rw [show verV ⟨n1, n2, n3, l.map Pl.mkS⟩ o c = .agg #[.int .i64 n1, .int .i64 n2, .int .i64 n3, .slice o l.length c] by simp [verV]] at ct
           rw [← hPe] at E
           obtain ⟨v, hv⟩ : ∃ v, v = (⟨n1, n2, n3, l.map Pl.mkS⟩ : Pl.Ver) := ⟨_, rfl⟩
           have hvv : ∀ o c, verV v o c = .agg #[.int .i64 n1, .int .i64 n2, .int .i64 n3, .slice o l.length c] := fun o c => by rw [hv]; simp [verV]
           have hvp : v.pre = l.map Pl.mkS := by rw [hv]
           rw [← hv] at ct E
           have HVV := Hd hvv
           have HVP := Hd hvp
           have SS := Hd ss
           clear hX HP hv hvv hvp ss hPe
           have e0 := VB.c 0 _ rfl; have e1 := VB.c 1 _ rfl; have e2 := VB.c 2 _ rfl; have e3 := VB.c 3 _ rfl; have e4 := VB.f 0 (by simp); have e5 := VB.f 1 (by simp); have e6 := VB.f 2 (by simp); have e7 := VB.f 3 (by simp); have e8 := VB.lt
           obtain ⟨F, hF⟩ : ∃ F, Pl.vrF v = F := ⟨_, rfl⟩
           rw [hF] at ct E
           obtain ⟨f1, f2⟩ := F
           simp only [fltV] at ct
           have CT := Hd ct
           by_cases h0 : f1 = 0
           · have u1 := bneF h0
             have u2 := beqT h0
             have EE := E.out
             rw [if_pos h0] at EE
             have E1 := Hd (show Pl.refV L = v by unfold Pl.refV; rw [EE]; rfl)
             have E2 := Hd (show Pl.refOk L = true by unfold Pl.refOk; rw [EE]; rfl)
             clear h0 hF EE ct
             go_wp2_with fail
             refine CT.out.mono ?_
             rintro e w6 ⟨rfl, hb6⟩
             have B6 : Below w.heap.size w w6 := bcall hbw hb6 hbw.size
             have own6 := ownsRow_below own hb6 nle
             have RB6 := RB.below hb6 RB.lt
             have VB6 := VB.below hb6 VB.lt
             clear e0 e1 e2 e3 e4 e5 e6 e7 e8
             clear hb6 VB RB own hbw
             have VB := VB6
             have RB := RB6
             have e0 := VB.c 0 _ rfl; have e1 := VB.c 1 _ rfl; have e2 := VB.c 2 _ rfl; have e3 := VB.c 3 _ rfl; have e4 := VB.f 0 (by simp); have e5 := VB.f 1 (by simp); have e6 := VB.f 2 (by simp); have e7 := VB.f 3 (by simp); have e8 := VB.lt
             have g0 := RB.c 0 _ rfl; have g1 := RB.c 1 _ rfl; have g2 := RB.c 2 _ rfl; have g3 := RB.c 3 _ rfl; have g4 := RB.f 0 (by simp); have g5 := RB.f 1 (by simp); have g6 := RB.f 2 (by simp); have g7 := RB.f 3 (by simp); have g8 := RB.lt
             go_wp2_with fail
             have RB7 := ((((RB6.st 0 (.int .i64 n1)).st 1 (.int .i64 n2)).st 2 (.int .i64 n3)).st 3 (.slice o l.length c))
             have r0 := RB7.c 0 _ rfl
             have r1 := RB7.c 1 _ rfl
             have r2 := RB7.c 2 _ rfl
             have r3 := RB7.c 3 _ rfl
             refine bodyPost_ret (v := .tuple #[.agg #[.int .i64 n1, .int .i64 n2, .int .i64 n3, .slice o l.length c], .bool true]) (by simp [results, Tryz.results150, go_sem, r0, r1, r2, r3]) rfl ?_
             rw [E1.out, E2.out]
             refine ⟨o, c, by rw [HVV.out], VIn.own (base := w.heap.size + 2) (n := l.length) (by rw [HVP.out, List.length_map]) ?_ (by rw [HVP.out]; exact SS.out), by go_grown⟩
             rw [HVP.out]
             exact ownsRow_far (ownsRow_far (ownsRow_far (ownsRow_far own6 (by dsimp only; omega) _) (by dsimp only; omega) _) (by dsimp only; omega) _) (by dsimp only; omega) _
           · have u1 := bneT h0
             have u2 := beqF h0
             have EE := E.out
             rw [if_neg h0] at EE
             have E1 := Hd (show Pl.refV L = Pl.Ver.zero by unfold Pl.refV; rw [EE]; rfl)
             have E2 := Hd (show Pl.refOk L = false by unfold Pl.refOk; rw [EE]; rfl)
             clear h0 hF EE ct
             go_wp2_with fail
             refine CT.out.mono ?_
             rintro e w6 ⟨rfl, hb6⟩
             have B6 : Below w.heap.size w w6 := bcall hbw hb6 hbw.size
             have RB6 := RB.below hb6 RB.lt
             clear e0 e1 e2 e3 e4 e5 e6 e7 e8
             clear hb6 VB RB own hbw
             have RB := RB6
             have g0 := RB.c 0 _ rfl; have g1 := RB.c 1 _ rfl; have g2 := RB.c 2 _ rfl; have g3 := RB.c 3 _ rfl; have g4 := RB.f 0 (by simp); have g5 := RB.f 1 (by simp); have g6 := RB.f 2 (by simp); have g7 := RB.f 3 (by simp); have g8 := RB.lt
             go_wp2_with fail
             have RB7 := (((RB6.st 0 (.int .i64 0)).st 1 (.int .i64 0)).st 2 (.int .i64 0)).st 3 (.slice none 0 0)
             have r0 := RB7.c 0 _ rfl
             have r1 := RB7.c 1 _ rfl
             have r2 := RB7.c 2 _ rfl
             have r3 := RB7.c 3 _ rfl
             refine bodyPost_ret (v := .tuple #[.agg #[.int .i64 0, .int .i64 0, .int .i64 0, .slice none 0 0], .bool false]) (by simp [results, Tryz.results150, go_sem, r0, r1, r2, r3]) rfl ?_
             rw [E1.out, E2.out]
             exact ⟨none, 0, rfl, VIn.zero _, by go_grown⟩
         | cons ch r1 =>
           obtain ⟨t1, t2, t3⟩ := str_some hX (List.cons_ne_nil _ _)
           have UB := Hd (quiet_below (until_cut X _ hX 46 46 wr (by omega)))
           rw [List.drop_succ_cons, List.drop_zero] at UB
           have hl1 := (Pl.until_len 46 46 r1)
           obtain ⟨I, hI⟩ : ∃ I, Pl.mkS (Pl.untilA 46 46 r1) = I := ⟨_, rfl⟩
           obtain ⟨T, hT⟩ : ∃ T, Pl.mkS (Pl.untilZ 46 46 r1) = T := ⟨_, rfl⟩
           rw [hI, hT] at UB
           have E2 := Hd (show (l ++ [Pl.untilA 46 46 r1]) ++ Pl.preP (Pl.untilZ 46 46 r1) = Pl.preP r0 by rw [← HP.out, Pl.preP_cons]; simp)
           have hms := Hd (show strLen (.string T) < strLen (.string X) by
            show T.size < X.size
            rw [← hT, hX, Pl.mkS_size, Pl.mkS_size, List.length_cons]; omega)
           have hI2 := Hd (show strVals ((l ++ [Pl.untilA 46 46 r1]).map Pl.mkS) = strVals (l.map Pl.mkS) ++ [.string I] by rw [List.map_append, strVals_append, ← hI]; rfl)
           have hr2 : (Pl.untilZ 46 46 r1).length ≤ 4096 := by simp at hr; omega
           have HT := Hd hT
           clear hI hT hX HP hr hl1
           go_wp2_with fail
           refine UB.out.mono ?_
           rintro e w5 ⟨rfl, hb5⟩
           have B5 : Below w.heap.size w w5 := bcall hbw hb5 hbw.size
           have own5 := ownsRow_below own hb5 nle
           have VB5 := VB.below hb5 VB.lt
           have RB5 := RB.below hb5 RB.lt
           have z5 : w.heap.size + 2 ≤ w5.heap.size := Nat.le_trans zw hb5.size
           clear hb5 VB RB own hbw
           have e3 := VB5.c 3 _ rfl
           go_wp2_with (at_builtin; go_loud (refine ap1 (by rfl) (by rfl) Tryz.tStrs (Below.refl (w.heap.size + 2) _) (by rfl) own5 (m := 1) (C := [.string I]) (by rfl) (by rfl) (by rfl) (by omega) z5 ?_); intro v6 w6 own6 b6 s6; obtain ⟨o6, c6, rfl⟩ := own_slice own6; have B6 : Below w.heap.size w w6 := bcall B5 b6 (by omega); have VB6 := VB5.below b6 (by omega); have RB6 := RB5.below b6 (by omega); have h3 := VB6.c 3 _ rfl; have h3f := VB6.f 3 (by simp); have h3l := VB6.lt; clear b6 e3)
           go_roundw
           case rel =>
            have VB7 := VB6.st 3 (.slice o6 (l.length + 1) c6)
            have own7 := ownsRow_far own6 (a := ⟨w.heap.size + 1, 3, none⟩) (by dsimp only; omega) (.slice o6 (l.length + 1) c6)
            refine ⟨l ++ [Pl.untilA 46 46 r1], _, o6, c6, by rw [HT.out], hr2, E2.out, ?_, ?_, RB6.far (by dsimp only; omega) _, B6.setCell (by dsimp only; omega) _, ?_⟩
            · rw [hI2.out, List.length_append]; exact own7
            · rw [List.length_append]; exact VB7
            · rw [World.size_setCell]; omega
           case measure => exact hms.out
end
section
open Go.RowKit
theorem Cut_at (s : ByteArray) (w : World) (hs : s.size ≤ 1048576) (E : Env w) :
 Calls Tryz.prog 139 #[.string s, .string (⟨#[45]⟩ : ByteArray)] w fun e w' => e = .returned (.tuple #[.string (Pl.mkS (Lib.cut (Pl.bsl s) [45]).1), .string (Pl.mkS (Lib.cut (Pl.bsl s) [45]).2.1), .bool (Lib.cut (Pl.bsl s) [45]).2.2]) ∧ ∃ q, w' = w.drewN q := by
 obtain ⟨m, hm⟩ := E.len
 exact Tryz.strings_Cut s (⟨#[45]⟩ : ByteArray) m w (by omega) hm
theorem split_B (s : ByteArray) (c : UInt8) : Lib.splitB ⟨#[c]⟩ 0 (Lib.countB s ⟨#[c]⟩) s = (Lib.split (Pl.bsl s) [c]).map Pl.mkS := by
 apply Pl.map_bsl_inj
 rw [List.map_map]
 have h := Lib.splitB_data ⟨#[c]⟩ 0 (Lib.countB s ⟨#[c]⟩) s
 have e : (Lib.split (Pl.bsl s) [c]).map (Pl.bsl ∘ Pl.mkS) = Lib.split (Pl.bsl s) [c] := by
  conv => rhs; rw [← List.map_id (Lib.split (Pl.bsl s) [c])]
  exact List.map_congr_left fun l _ => Pl.bsl_mkS l
 rw [e]
 exact h
theorem Split_at (s : ByteArray) (c : UInt8) (w : World) (hs : s.size ≤ 1048576) (E : Env w) :
 Calls Tryz.prog 59 #[.string s, .string ⟨#[c]⟩] w fun e w' => e = .returned (.slice (some ⟨w.heap.size, 0, none⟩) (Lib.split (Pl.bsl s) [c]).length (Lib.split (Pl.bsl s) [c]).length) ∧
  w' = w.alloc (.cells (strVals ((Lib.split (Pl.bsl s) [c]).map Pl.mkS)).toArray 9) := by
 obtain ⟨m, hm⟩ := E.len
 have h := Tryz.strings_Split s ⟨#[c]⟩ m w (by omega) hm nle
 have hl : Lib.countB s ⟨#[c]⟩ + 1 = (Lib.split (Pl.bsl s) [c]).length := by
  have := Lib.splitB_all ⟨#[c]⟩ nle 0 _ s rfl
  rw [split_B, List.length_map] at this
  exact this.symm
 rw [hl, split_B] at h
 exact h
theorem Atoi_any (s : ByteArray) (w : World) (hs : s.size ≤ 1048576) (E : Env w) :
 Calls Tryz.prog 140 #[.string s] w fun e w' => ∃ er, e = .returned (.tuple #[.int .i64 (Pl.atoiV (Pl.bsl s)), er]) ∧ Below w.heap.size w w' := by
 obtain ⟨t1, p1, h1⟩ := E.syn
 obtain ⟨t2, p2, h2⟩ := E.rng
 unfold Pl.atoiV
 rcases h : Lib.atoiAll (Pl.bsl s) with v | _ | _
 · refine (Tryz.strconv_Atoi_ok s (by omega) v h w).mono ?_
   rintro e w' ⟨rfl, hw⟩
   refine ⟨_, rfl, ?_⟩
   rcases hw with rfl | ⟨t, rfl⟩
   · exact Below.refl _ _
   · exact Lib.bytesWorld_below _ _ _
 · refine (Tryz.strconv_Atoi_syntax s (by omega) h _ w h1 (.inr ⟨_, _, rfl⟩)).mono ?_
   rintro e w' ⟨N, rfl, -, -, hb⟩
   exact ⟨_, rfl, hb⟩
 · refine (Tryz.strconv_Atoi_range s (by omega) h _ w h2 (.inr ⟨_, _, rfl⟩)).mono ?_
   rintro e w' ⟨N, rfl, -, -, hb⟩
   exact ⟨_, rfl, hb⟩
end
section
open Go.RowKit
namespace Pl
def parV (s : ByteArray) : Ver := if 80 < s.size then Ver.zero else (progParse (bsl s)).getD Ver.zero
def parF (s : ByteArray) : Int × Int := if 80 < s.size then (2, -1) else match progParse (bsl s) with | some _ => (0, 0) | none => (1, -1)
theorem par_none {s : ByteArray} (h0 : s.size ≤ 80) (h : progParse (bsl s) = none) : parV s = Ver.zero ∧ parF s = (1, -1) := by
 unfold parV parF; rw [if_neg (by omega), if_neg (by omega), h]; exact ⟨rfl, rfl⟩
theorem par_some {s : ByteArray} {v : Ver} (h0 : s.size ≤ 80) (h : progParse (bsl s) = some v) : parV s = v ∧ parF s = (0, 0) := by
 unfold parV parF; rw [if_neg (by omega), if_neg (by omega), h]; exact ⟨rfl, rfl⟩
theorem prog_none1 {s : List UInt8} (h : (Lib.split (Lib.cut s [45]).1 [46]).length ≠ 3) : progParse s = none := by unfold progParse progTry; rw [if_pos h]
theorem prog_try {s : List UInt8} {a b c : List UInt8} (h : Lib.split (Lib.cut s [45]).1 [46] = [a, b, c]) :
 progParse s = if (vrF ⟨atoiV a, atoiV b, atoiV c, if (Lib.cut s [45]).2.2 = true then (Lib.split (Lib.cut s [45]).2.1 [46]).map mkS else []⟩).1 = 0 ∧ verT ⟨atoiV a, atoiV b, atoiV c, if (Lib.cut s [45]).2.2 = true then (Lib.split (Lib.cut s [45]).2.1 [46]).map mkS else []⟩ = s then some ⟨atoiV a, atoiV b, atoiV c, if (Lib.cut s [45]).2.2 = true then (Lib.split (Lib.cut s [45]).2.1 [46]).map mkS else []⟩ else none := by
 unfold progParse progTry; rw [h]; rfl
theorem cut_len (s : List UInt8) (c : UInt8) : (Lib.cut s [c]).1.length ≤ s.length ∧ (Lib.cut s [c]).2.1.length ≤ s.length := by
 unfold Lib.cut
 split
 · simp only [List.length_take, List.length_drop]; omega
 · simp
theorem splitK_size (c : UInt8) : ∀ (k : Nat) (s : List UInt8), ∀ x ∈ Lib.splitK [c] 0 k s, x.length ≤ s.length
 | 0, s, x, hx => by rw [Lib.splitK, List.mem_singleton] at hx; rw [hx]; exact nle
 | k + 1, s, x, hx => by
   rw [Lib.splitK] at hx
   split at hx
   · rw [List.mem_singleton.1 hx]; exact nle
   · rcases List.mem_cons.1 hx with rfl | hx
     · rw [List.length_take]; omega
     · have := splitK_size c k _ x hx
       rw [List.length_drop] at this; omega
theorem split_size (s : List UInt8) (c : UInt8) : ∀ x ∈ Lib.split s [c], x.length ≤ s.length := splitK_size c _ s
theorem splitK_len (c : UInt8) : ∀ (k : Nat) (s : List UInt8), (Lib.splitK [c] 0 k s).length ≤ k + 1
 | 0, s => by rw [Lib.splitK]; simp
 | k + 1, s => by
   rw [Lib.splitK]
   split
   · simp
   · have := splitK_len c k (s.drop ((Lib.index s [c]).toNat + [c].length))
     rw [List.length_cons]; omega
theorem split_len (s : List UInt8) (c : UInt8) : (Lib.split s [c]).length ≤ s.length + 2 := by
 have := splitK_len c (Lib.count s [c]) s
 have h2 := Lib.count_le s [c]
 unfold Lib.split
 omega
end Pl
theorem list3 {α : Type} {l : List α} (h : l.length = 3) : ∃ a b c, l = [a, b, c] := by
 match l, h with
 | [a, b, c], _ => exact ⟨a, b, c, rfl⟩
theorem atoi_at {S : ByteArray} {x : List UInt8} {n : Int} (hS : Pl.mkS x = S) (hn : Pl.atoiV x = n) (hx : x.length ≤ 80) : ∀ W, Env W → Calls Tryz.prog 140 #[.string S] W fun e w' => ∃ er, e = .returned (.tuple #[.int .i64 n, er]) ∧ Below W.heap.size W w' := fun W e => by
 have := Atoi_any S W (by rw [← hS, Pl.mkS_size]; omega) e
 rw [← hS, Pl.bsl_mkS, hn] at this
 rw [← hS]
 exact this
def pcJ (n0 n1 n2 : Int) (P : Value) (j : Nat) : List Value := [.int .i64 (if 0 < j then n0 else 0), .int .i64 (if 1 < j then n1 else 0), .int .i64 (if 2 < j then n2 else 0), P]
def PLoop (w : World) (v1 nl np : Nat) (n0 n1 n2 : Int) (P : Value) (S0 S1 S2 : ByteArray) (Pa : Option Addr) (prel : List ByteArray) (Pc : Nat) (x : Value) (wr : World) : Prop := ∃ j : Nat, j ≤ 3 ∧ x = .int .i64 (j : Int) ∧ Below w.heap.size w wr ∧ np + 1 ≤ wr.heap.size ∧
 Hid (Blk wr w.heap.size [.int .i64 0, .int .i64 0, .int .i64 0, .slice none 0 0] ∧ Box2 wr (w.heap.size + 1) (.int .i64 0) (.int .i64 0) ∧ Box2 wr (w.heap.size + 1 + 1) (.int .i64 1) (.int .i64 (-1)) ∧ Blk wr v1 (pcJ n0 n1 n2 P j) ∧ Blk wr nl [.string S0, .string S1, .string S2] ∧ Blk wr np [.pointer (some ⟨v1, 0, none⟩), .pointer (some ⟨v1, 1, none⟩), .pointer (some ⟨v1, 2, none⟩)] ∧ Sl wr Pa prel.length Pc 1 (strVals prel))
theorem Sl_far {w : World} {oa : Option Addr} {n cap sz : Nat} {cs : List Value} (h : Sl w oa n cap sz cs) {a : Addr} (hne : ∀ b off, oa = some ⟨b, off, none⟩ → b ≠ a.block) (v : Value) : Sl (w.setCell a v) oa n cap sz cs := by
 refine ⟨h.hl, h.hcap, h.hmax, ?_⟩
 rcases h.mem with h0 | ⟨b, off, h1, h2, h3⟩
 · exact .inl h0
 · refine .inr ⟨b, off, h1, by simpa using h2, fun j u hu => ?_⟩
   rw [World.cell?_setCell_other _ _ _ _ (by intro h4; have := congrArg Addr.block h4; exact hne b off h1 (by first | exact this | exact this.symm))]
   exact h3 j u hu
theorem pre_cap {pre : List UInt8} (h : pre.length ≤ 80) : (Lib.split pre [46]).length ≤ maxLen := by
 have := Pl.split_len pre 46
 unfold maxLen; omega
set_option maxHeartbeats 1000000 in
theorem Parse_long (s : ByteArray) (w : World) (hs : s.size ≤ 9223372036854775807) (h : 80 < s.size) :
 Calls Tryz.prog 108 #[.string s] w (RVerF (Pl.parV s) (Pl.parF s) w) := by
 have E1 : Pl.parV s = Pl.Ver.zero := by unfold Pl.parV; rw [if_pos h]
 have E2 : Pl.parF s = (2, -1) := by unfold Pl.parF; rw [if_pos h]
 rw [E1, E2]
 clear E1 E2
 go_enter Tryz.func108, Tryz.ntmps108
 go_wp2_with fail
 go_returns
 exact ⟨none, 0, rfl, VIn.zero _, by go_grown⟩
end
end Go.Proofs.YtolfgcoalihmgaaGreatDoor
