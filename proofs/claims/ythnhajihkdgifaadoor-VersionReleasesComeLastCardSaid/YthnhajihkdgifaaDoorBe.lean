/- Contracts: the order of identifiers, by the program and by the reference; lists of strings compared. -/
import Derived.Test.YthnhajihkdgifaaDoorBd
import Derived.Test.YthnhajihkdgifaaDoorKl
namespace Go.Proofs.YthnhajihkdgifaaDoor
open Go.RowKit

def strVals (l : List ByteArray) : List Value := l.map Value.string
theorem strVals_length (l : List ByteArray) : (strVals l).length = l.length := by simp [strVals]
theorem strVals_get (l : List ByteArray) (k : Nat) (h : k < l.length) : (strVals l)[k]? = some (.string l[k]) := by simp [strVals, h]
theorem strVals_append (l m : List ByteArray) : strVals (l ++ m) = strVals l ++ strVals m := by simp [strVals]
theorem strVals_one (l : List ByteArray) : ∀ u ∈ strVals l, u.oneCell' = true := by
  intro u hu
  obtain ⟨x, _, rfl⟩ := List.mem_map.1 hu
  rfl

namespace Pl
theorem idCmp_dd {a b : List UInt8} (h1 : digsB a = true) (h2 : digsB b = true) : idCmp a b = orL [sgn (a.length : Int) (b.length : Int), Lib.compareBytes a b] := by
  unfold idCmp idKey lexP
  simp only [h1, h2, if_true, sgn_self, orL]
  split
  · split <;> simp [*]
  · rfl
theorem idCmp_dn {a b : List UInt8} (h1 : digsB a = true) (h2 : digsB b = false) : idCmp a b = -1 := by
  unfold idCmp idKey lexP
  simp [h1, h2, sgn]
theorem idCmp_nd {a b : List UInt8} (h1 : digsB a = false) (h2 : digsB b = true) : idCmp a b = 1 := by
  unfold idCmp idKey lexP
  simp [h1, h2, sgn]
theorem idCmp_nn {a b : List UInt8} (h1 : digsB a = false) (h2 : digsB b = false) : idCmp a b = Lib.compareBytes a b := by
  unfold idCmp idKey lexP
  simp [h1, h2, sgn]
end Pl

theorem Compare_any (a b : ByteArray) (w : World) : Calls Tryd.prog 60 #[.string a, .string b] w fun e w' => e = .returned (.int .i64 (Lib.compareBytes (Pl.bsl a) (Pl.bsl b))) ∧ w = w' :=
  (Tryd.strings_Compare a b w).mono fun _ _ ⟨h1, h2⟩ => ⟨h1, h2.symm⟩
theorem cmpInt_any (a b : Int) (w : World) : Calls Tryd.prog 45 #[.int .i64 a, .int .i64 b] w fun e w' => e = .returned (.int .i64 (Pl.sgn a b)) ∧ w = w' :=
  (Tryd.cmp_Compare_int a b w).mono fun _ _ ⟨h1, h2⟩ => ⟨h1, h2.symm⟩

set_option maxHeartbeats 1000000 in
theorem compareIdentifiers_any (a b : ByteArray) (w : World) (ha : Pl.asciiB (Pl.bsl a) = true) (hb : Pl.asciiB (Pl.bsl b) = true) (_ : a.size ≤ 9223372036854775807) (_ : b.size ≤ 9223372036854775807) :
    Calls Tryd.prog 47 #[.string a, .string b] w fun e w' => e = .returned (.int .i64 (Pl.idc a b)) ∧ Below w.heap.size w w' := by
  have HA := Lib.hid ha
  have HB := Lib.hid hb
  clear ha hb
  have head : ∀ {P : Int}, Pl.idc a b = P → Hid (P = Pl.idc a b) := fun h => Lib.hid h.symm
  cases d1 : Pl.digsB (Pl.bsl a) <;> cases d2 : Pl.digsB (Pl.bsl b)
  · have E := head (Pl.idCmp_nn d1 d2)
    clear head
    go_enter Tryd.func47, Tryd.ntmps47
    go_wp2_with fail
    refine (numeric_any _ _ HA.out).mono ?_
    rintro e w1 ⟨rfl, b1⟩
    go_wp2_with fail
    refine (numeric_any _ _ HB.out).mono ?_
    rintro e w2 ⟨rfl, b2⟩
    go_wp2_with (go_at_call 60; refine (Compare_any _ _ _).mono ?_; rintro e w' ⟨rfl, rfl⟩)
    go_ret
    exact ⟨ret_int E.out, bcall b1 b2 b1.size⟩
  · have E := head (Pl.idCmp_nd d1 d2)
    clear head
    go_enter Tryd.func47, Tryd.ntmps47
    go_wp2_with fail
    refine (numeric_any _ _ HA.out).mono ?_
    rintro e w1 ⟨rfl, b1⟩
    go_wp2_with fail
    refine (numeric_any _ _ HB.out).mono ?_
    rintro e w2 ⟨rfl, b2⟩
    go_wp2_with fail
    go_ret
    exact ⟨ret_int E.out, bcall b1 b2 b1.size⟩
  · have E := head (Pl.idCmp_dn d1 d2)
    clear head
    go_enter Tryd.func47, Tryd.ntmps47
    go_wp2_with fail
    refine (numeric_any _ _ HA.out).mono ?_
    rintro e w1 ⟨rfl, b1⟩
    go_wp2_with fail
    refine (numeric_any _ _ HB.out).mono ?_
    rintro e w2 ⟨rfl, b2⟩
    go_wp2_with fail
    go_ret
    exact ⟨ret_int E.out, bcall b1 b2 b1.size⟩
  · have E := head (Pl.idCmp_dd d1 d2)
    clear head
    go_enter Tryd.func47, Tryd.ntmps47
    go_wp2_with fail
    refine (numeric_any _ _ HA.out).mono ?_
    rintro e w1 ⟨rfl, b1⟩
    go_wp2_with fail
    refine (numeric_any _ _ HB.out).mono ?_
    rintro e w2 ⟨rfl, b2⟩
    have B2 := bcall b1 b2 b1.size
    go_wp2_with (first | (go_at_call 60; refine (Compare_any _ _ _).mono ?_; rintro e w' ⟨rfl, rfl⟩) | (go_at_call 45; refine (cmpInt_any _ _ _).mono ?_; rintro e w' ⟨rfl, rfl⟩))
    refine (Or_any [Pl.sgn (a.size : Int) (b.size : Int), Lib.compareBytes (Pl.bsl a) (Pl.bsl b)] _ _ _ (Sl.fresh (C := intVals [Pl.sgn (a.size : Int) (b.size : Int), Lib.compareBytes (Pl.bsl a) (Pl.bsl b)]) rfl rfl (Nat.le_refl _) (by unfold maxLen; simp)) (by simp)).mono ?_
    rintro e w' ⟨rfl, rfl⟩
    go_wp2_with fail
    go_ret
    exact ⟨ret_int E.out, by have h := B2.size; exact B2.alloc h _⟩
end Go.Proofs.YthnhajihkdgifaaDoor
