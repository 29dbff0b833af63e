/- Texts joined: Pp Ba Bb Pq Sc. -/
import Derived.Test.YtgngehfgcogceaaGreatDoorZMPo
import Derived.Lib.ItoaNum
import Derived.Shelf.Small.Strs
import Derived.Shelf.Small.Wraps
import Derived.Ground.Names2Prog
import Derived.Shelf.Slices.Clone
import Derived.Shelf.Strings.OnBuilder
import Derived.Shelf.LaysM
import Derived.Shelf.Strconv.Itoa3
import Derived.Shelf.LaysC
import Derived.Shelf.Strconv.AtoiAll
import Derived.Shelf.Strings.Cut
import Derived.Shelf.GgClosure.StringsRunes
import Derived.Shelf.Strings.Split
import Derived.Test.YtgngehfgcogceaaGreatDoorProg
section
/- Versions, their faults and their order in plain words: no program in sight. -/
namespace Go.Proofs.YtgngehfgcogceaaGreatDoor
namespace Pl

structure Ver where
  maj : Int
  min : Int
  pat : Int
  pre : List ByteArray

def Ver.zero : Ver := ⟨0, 0, 0, []⟩
def bsl (s : ByteArray) : List UInt8 := s.data.toList
theorem bsl_inj {a b : ByteArray} (h : bsl a = bsl b) : a = b := by
  cases a; cases b; simpa [bsl] using h

/-- The fault of identifiers from place k on. -/
def preAt : List ByteArray → Nat → Int × Int
  | [], _ => (0, 0)
  | s :: r, k => if identB (bsl s) = true then preAt r (k + 1) else (5, (k : Int))
def vrF (v : Ver) : Int × Int :=
  if inB v.maj 0 1000000000 = false then (3, 0)
  else if inB v.min 0 1000000000 = false then (3, 1)
  else if inB v.pat 0 1000000000 = false then (3, 2)
  else if 4 < v.pre.length then (2, -1)
  else preAt v.pre 0
theorem preAt_cases : ∀ (l : List ByteArray) (k : Nat), preAt l k = (0, 0) ∧ (∀ s ∈ l, identB (bsl s) = true) ∨ (preAt l k).1 ≠ 0
  | [], _ => .inl ⟨rfl, fun s h => by cases h⟩
  | s :: r, k => by
    rw [preAt]
    by_cases h : identB (bsl s) = true
    · rw [if_pos h]
      rcases preAt_cases r (k + 1) with ⟨e, g⟩ | g
      · exact .inl ⟨e, fun x hx => (List.mem_cons.1 hx).elim (fun e => e ▸ h) (g x)⟩
      · exact .inr g
    · rw [if_neg h]; exact .inr (by simp)
theorem preAt_ok : ∀ {l : List ByteArray} {k : Nat}, (∀ s ∈ l, identB (bsl s) = true) → preAt l k = (0, 0)
  | [], _, _ => rfl
  | s :: r, k, h => by rw [preAt, if_pos (h s (by simp))]; exact preAt_ok fun x hx => h x (by simp [hx])

structure Ver.Ok (v : Ver) : Prop where
  m1 : inB v.maj 0 1000000000 = true
  m2 : inB v.min 0 1000000000 = true
  m3 : inB v.pat 0 1000000000 = true
  n : v.pre.length ≤ 4
  i : ∀ s ∈ v.pre, identB (bsl s) = true
theorem vrF_ok {v : Ver} (h : v.Ok) : vrF v = (0, 0) := by
  unfold vrF
  rw [h.m1, h.m2, h.m3, if_neg (by decide), if_neg (by decide), if_neg (by decide), if_neg (by have := h.n; omega), preAt_ok h.i]
theorem vrF_cases (v : Ver) : vrF v = (0, 0) ∧ v.Ok ∨ (vrF v).1 ≠ 0 := by
  unfold vrF
  cases h1 : inB v.maj 0 1000000000
  · exact .inr (by rw [if_pos rfl]; decide)
  cases h2 : inB v.min 0 1000000000
  · exact .inr (by rw [if_neg (by decide), if_pos rfl]; decide)
  cases h3 : inB v.pat 0 1000000000
  · exact .inr (by rw [if_neg (by decide), if_neg (by decide), if_pos rfl]; decide)
  rw [if_neg (by decide), if_neg (by decide), if_neg (by decide)]
  by_cases h4 : 4 < v.pre.length
  · rw [if_pos h4]; exact .inr (by decide)
  · rw [if_neg h4]
    rcases preAt_cases v.pre 0 with ⟨e, g⟩ | g
    · exact .inl ⟨e, h1, h2, h3, by omega, g⟩
    · exact .inr g

def idc (a b : ByteArray) : Int := idCmp (bsl a) (bsl b)
theorem idc_TO : TO idc (fun _ => True) := idCmp_TO.pull bsl _ (fun _ h => h) (fun _ _ _ _ h => bsl_inj h)
def verKey (v : Ver) : Int × Int × Int × Int × List ByteArray := (v.maj, v.min, v.pat, if v.pre.length = 0 then 1 else 0, v.pre)
def verCmp (a b : Ver) : Int := lexP sgn (lexP sgn (lexP sgn (lexP sgn (lexL idc)))) (verKey a) (verKey b)
theorem verCmp_TO : TO verCmp (fun _ => True) := by
  refine (lexP_TO sgn_TO (lexP_TO sgn_TO (lexP_TO sgn_TO (lexP_TO sgn_TO (lexL_TO idc_TO))))).pull verKey _ (fun _ _ => ⟨trivial, trivial, trivial, trivial, fun _ _ => trivial⟩) (fun a b _ _ h => ?_)
  cases a; cases b
  simp only [verKey, Prod.mk.injEq] at h
  obtain ⟨h1, h2, h3, -, h4⟩ := h
  rw [h1, h2, h3, h4]

/-- The next version. -/
def zeroId : ByteArray := ⟨#[48]⟩
def verNext (v : Ver) : Ver := ⟨v.maj, v.min, if v.pre.length = 0 then v.pat + 1 else v.pat, v.pre ++ [zeroId]⟩
theorem zero_least {s : ByteArray} (h : identB (bsl s) = true) : idc zeroId s ≤ 0 := by
  obtain ⟨h1, -, -, -⟩ := identB_iff.1 h
  unfold idc
  generalize bsl s = l at *
  have e : idKey (bsl zeroId) = (0, 1, [48]) := rfl
  unfold idCmp lexP
  rw [e]
  unfold idKey
  cases hd : digsB l
  · simp [sgn]
  · rw [if_pos (by simp [sgn])]
    rcases l with _ | ⟨c, l⟩
    · simp at h1
    · simp only [digsB, List.all_cons, Bool.and_eq_true] at hd
      have hc := digB_iff.1 hd.1
      simp only [if_true, List.length_cons]
      unfold sgn
      repeat' split
      all_goals first | omega | skip
      rw [Lib.compareBytes]
      simp only [UInt8.lt_iff_toNat_lt]
      have e8 : (48 : UInt8).toNat = 48 := rfl
      rw [e8]
      repeat' split
      all_goals first | omega | skip
      cases l <;> simp [Lib.compareBytes]
theorem lexL_succ {α : Type} {c : α → α → Int} {z : α} : ∀ (p q : List α), (∀ y ∈ q, c z y ≤ 0) → (lexL c p q < 0 ↔ lexL c (p ++ [z]) q ≤ 0)
  | [], [], _ => by simp [lexL]
  | [], y :: q, h => by
    have hy := h y (by simp)
    rw [List.nil_append, lexL, lexL]
    refine ⟨fun _ => ?_, fun _ => by omega⟩
    split
    · cases q <;> simp [lexL]
    · exact hy
  | x :: p, [], _ => by simp [lexL]
  | x :: p, y :: q, h => by
    rw [List.cons_append, lexL, lexL]
    split
    · exact lexL_succ p q fun z hz => h z (by simp [hz])
    · omega
theorem Ver.ext' {a b : Ver} (h1 : a.maj = b.maj) (h2 : a.min = b.min) (h3 : a.pat = b.pat) (h4 : a.pre = b.pre) : a = b := by
  cases a; cases b; cases h1; cases h2; cases h3; cases h4; rfl
theorem sgn_lt {x y : Int} (h : x < y) : sgn x y = -1 := by unfold sgn; rw [if_pos h]
theorem sgn_self (x : Int) : sgn x x = 0 := by unfold sgn; rw [if_neg (by omega), if_neg (by omega)]
theorem sgn_gt {x y : Int} (h : y < x) : sgn x y = 1 := by unfold sgn; rw [if_neg (by omega), if_pos h]
/-- The order, unfolded. -/
theorem verCmp_eq (a b : Ver) : verCmp a b =
    if sgn a.maj b.maj = 0 then if sgn a.min b.min = 0 then if sgn a.pat b.pat = 0 then
      if sgn (if a.pre.length = 0 then 1 else 0) (if b.pre.length = 0 then 1 else 0) = 0 then lexL idc a.pre b.pre else sgn (if a.pre.length = 0 then 1 else 0) (if b.pre.length = 0 then 1 else 0)
      else sgn a.pat b.pat else sgn a.min b.min else sgn a.maj b.maj := rfl
theorem sgn_zero {x y : Int} : sgn x y = 0 ↔ x = y := by unfold sgn; repeat' split <;> omega
/-- No version lies between a version and the next one. -/
theorem next_succ (a b : Ver) (hb : ∀ s ∈ b.pre, identB (bsl s) = true) : verCmp a b < 0 ↔ verCmp (verNext a) b ≤ 0 := by
  have hL := lexL_succ (c := idc) (z := zeroId) a.pre b.pre fun y hy => zero_least (hb y hy)
  rw [verCmp_eq, verCmp_eq]
  have e0 : (verNext a).pre.length ≠ 0 := by simp [verNext]
  rw [show (verNext a).maj = a.maj from rfl, show (verNext a).min = a.min from rfl, if_neg e0]
  by_cases h1 : sgn a.maj b.maj = 0
  · rw [if_pos h1, if_pos h1]
    by_cases h2 : sgn a.min b.min = 0
    · rw [if_pos h2, if_pos h2]
      by_cases hp : a.pre.length = 0
      · have hp' : a.pre = [] := List.length_eq_zero_iff.1 hp
        have e1 : (verNext a).pat = a.pat + 1 := by simp [verNext, hp]
        rw [e1, if_pos hp]
        rw [show (verNext a).pre = [zeroId] by simp [verNext, hp']]
        have g1 := sgn_self 0
        have g2 := sgn_self 1
        have g3 := sgn_lt (show (0 : Int) < 1 by omega)
        have g4 := sgn_gt (show (0 : Int) < 1 by omega)
        have hL2 : b.pre.length ≠ 0 → lexL idc [zeroId] b.pre ≤ 0 := fun hq => by
          rw [hp'] at hL
          refine hL.1 ?_
          cases h : b.pre with
          | nil => rw [h] at hq; exact absurd rfl hq
          | cons x l => rw [lexL]; omega
        have hL3 : b.pre.length = 0 → lexL idc a.pre b.pre = 0 := fun hq => by rw [hp', List.length_eq_zero_iff.1 hq]; rfl
        generalize lexL idc a.pre b.pre = X at *
        generalize lexL idc [zeroId] b.pre = Y at *
        rcases Int.lt_trichotomy a.pat b.pat with h | h | h
        · have f1 := sgn_lt h
          by_cases h4 : a.pat + 1 = b.pat
          · have f2 := sgn_self b.pat
            rw [h4]
            by_cases hq : b.pre.length = 0
            · simp [f1, f2, hq, g3]
            · simp [f1, f2, hq, g1, hL2 hq]
          · have f2 := sgn_lt (show a.pat + 1 < b.pat by omega)
            simp [f1, f2]
        · have f1 := sgn_self b.pat
          have f2 := sgn_gt (show b.pat < b.pat + 1 by omega)
          rw [h]
          by_cases hq : b.pre.length = 0
          · simp [f1, f2, hq, g2, hL3 hq]
          · simp [f1, f2, hq, g4]
        · have f1 := sgn_gt h
          have f2 := sgn_gt (show b.pat < a.pat + 1 by omega)
          simp [f1, f2]
      · have e1 : (verNext a).pat = a.pat := by simp [verNext, hp]
        rw [e1, if_neg hp]
        by_cases h3 : sgn a.pat b.pat = 0
        · rw [if_pos h3, if_pos h3]
          by_cases hq : b.pre.length = 0
          · rw [if_pos hq, sgn_lt (show (0 : Int) < 1 by omega), if_neg (by omega)]
            omega
          · rw [if_neg hq, if_pos (sgn_self 0), if_pos (sgn_self 0)]
            exact hL
        · rw [if_neg h3, if_neg h3]
          omega
    · rw [if_neg h2, if_neg h2]
      omega
  · rw [if_neg h1, if_neg h1]
    omega
end Pl
end Go.Proofs.YtgngehfgcogceaaGreatDoor

end
section
/- Contracts of the reference's small functions on versions: digits, identifiers, signs. -/
namespace Go.Proofs.YtgngehfgcogceaaGreatDoor
open Go.RowKit

theorem beqF {a b : Int} (h : a ≠ b) : (a == b) = false := by simp [h]
theorem beqT {a b : Int} (h : a = b) : (a == b) = true := by simp [h]
theorem bneF {a b : Int} (h : a = b) : (a != b) = false := by simp [h]
theorem bneT {a b : Int} (h : a ≠ b) : (a != b) = true := by simp [h]
namespace Pl
theorem bsl_len (s : ByteArray) : (bsl s).length = s.size := rfl
theorem bsl_take (s : ByteArray) (k : Nat) (h : k < s.size) : (bsl s).take (k + 1) = (bsl s).take k ++ [s[k]] := by
  unfold bsl
  rw [List.take_succ_eq_append_getElem (by simpa using h)]; rfl
end Pl

end Go.Proofs.YtgngehfgcogceaaGreatDoor

end
section
/- Contracts of the reference: values of digits, identifiers, their order. -/
namespace Go.Proofs.YtgngehfgcogceaaGreatDoor
open Go.RowKit

namespace Pl
theorem idcB_snoc {s : ByteArray} {k : Nat} (hk : k < s.size) (hu : ((bsl s).take k).all idcB = true) (h : idcB s[k] = true) : ((bsl s).take (k + 1)).all idcB = true := by
  rw [bsl_take s k hk, List.all_append, hu]; simp [h]
theorem idcB_bad {s : ByteArray} {k : Nat} (hk : k < s.size) (h : idcB s[k] = false) : identB (bsl s) = false := by
  have : (bsl s).all idcB = false := by
    rw [List.all_eq_false]
    exact ⟨s[k], by unfold bsl; exact List.getElem_mem (by simpa using hk), by simp [h]⟩
  unfold identB; rw [this]; simp
theorem idcB_eq (c : UInt8) : idcB c = (inB (c.toNat : Int) 48 57 || inB (c.toNat : Int) 97 122 || inB (c.toNat : Int) 65 90 || decide ((c.toNat : Int) = 45)) := by
  have e : (c == 45) = decide ((c.toNat : Int) = 45) := by
    rw [Bool.eq_iff_iff]; simp [← UInt8.toNat_inj]; omega
  unfold idcB digB inB
  rw [e]
  congr 1
  congr 1
  · congr 1
    · rw [Bool.eq_iff_iff]; simp; omega
    · rw [Bool.eq_iff_iff]; simp; omega
  · rw [Bool.eq_iff_iff]; simp; omega
/-- A zero ahead of other digits. -/
def leadB (s : List UInt8) : Bool := digsB s && decide (1 < s.length) && s.head? == some 48
theorem identB_lead (s : List UInt8) : identB s = (decide (1 ≤ s.length) && decide (s.length ≤ 8) && s.all idcB && !leadB s) := rfl
theorem head_get {s : ByteArray} (h : 0 < s.size) : (bsl s).head? = some s[0] := by
  have : (bsl s)[0]? = some s[0] := by
    rw [List.getElem?_eq_getElem (by simpa [bsl_len] using h)]; rfl
  rw [← this, List.head?_eq_getElem?]
end Pl

end Go.Proofs.YtgngehfgcogceaaGreatDoor

end
section
/- Orders of lists, met step by step; digits of numbers. No program in sight. -/
namespace Go.Proofs.YtgngehfgcogceaaGreatDoor
namespace Pl

/-- The first k places compare as equal. -/
def EqTo {α : Type} (c : α → α → Int) (a b : List α) (k : Nat) : Prop := ∀ j (h1 : j < a.length) (h2 : j < b.length), j < k → c a[j] b[j] = 0
theorem EqTo.zero {α : Type} (c : α → α → Int) (a b : List α) : EqTo c a b 0 := fun _ _ _ h => absurd h (by omega)
theorem EqTo.succ {α : Type} {c : α → α → Int} {a b : List α} {k : Nat} (h : EqTo c a b k) (h1 : k < a.length) (h2 : k < b.length) (e : c a[k] b[k] = 0) : EqTo c a b (k + 1) := fun j j1 j2 hj => by
  by_cases hk : j = k
  · subst hk; exact e
  · exact h j j1 j2 (by omega)
theorem lexL_at {α : Type} {c : α → α → Int} : ∀ {a b : List α} {k : Nat} (_ : EqTo c a b k) (h1 : k < a.length) (h2 : k < b.length), c a[k] b[k] ≠ 0 → lexL c a b = c a[k] b[k]
  | [], _, _, _, h1, _, _ => by simp at h1
  | _ :: _, [], _, _, _, h2, _ => by simp at h2
  | x :: a, y :: b, 0, _, _, _, hne => by
    simp only [List.getElem_cons_zero] at *
    rw [lexL, if_neg hne]
  | x :: a, y :: b, k + 1, h, h1, h2, hne => by
    have h0 := h 0 (by simp) (by simp) (by omega)
    simp only [List.getElem_cons_zero, List.getElem_cons_succ] at *
    rw [lexL, if_pos h0]
    exact lexL_at (k := k) (fun j j1 j2 hj => by have := h (j + 1) (by simpa using j1) (by simpa using j2) (by omega); simpa using this) (by simpa using h1) (by simpa using h2) hne
theorem lexL_end {α : Type} {c : α → α → Int} : ∀ {a b : List α} {k : Nat} (_ : EqTo c a b k), k ≤ a.length → k ≤ b.length → (k = a.length ∨ k = b.length) → lexL c a b = sgn (a.length : Int) (b.length : Int)
  | [], [], _, _, _, _, _ => by simp [lexL, sgn]
  | [], y :: b, _, _, _, _, _ => by simp only [lexL, sgn, List.length_nil, List.length_cons]; rw [if_pos (by omega)]
  | x :: a, [], _, _, _, _, _ => by simp only [lexL, sgn, List.length_nil, List.length_cons]; rw [if_neg (by omega), if_pos (by omega)]
  | x :: a, y :: b, 0, _, _, _, h => by simp at h
  | x :: a, y :: b, k + 1, h, h1, h2, h3 => by
    have h0 := h 0 (by simp) (by simp) (by omega)
    simp only [List.getElem_cons_zero] at h0
    simp only [List.length_cons] at *
    rw [lexL, if_pos h0, lexL_end (k := k) (fun j j1 j2 hj => by have := h (j + 1) (by simpa using j1) (by simpa using j2) (by omega); simpa using this) (by omega) (by omega) (by omega)]
    unfold sgn
    repeat' split <;> omega

/-- The digits of a number. -/
def digS (n : Int) : List UInt8 := Lib.decDigits n.toNat
end Pl
end Go.Proofs.YtgngehfgcogceaaGreatDoor

end
section
/- Library contracts at this program: comparing, cloning, joining, cutting, splitting, numerals. -/
namespace Go.Proofs
open Go.Shelf
def Tryz.lays106_ren : Go.Shelf.Ren := ⟨fun | 106 => 90 | 213 => 119 | 265 => 136 | n => n, fun | 9 => 9 | 3 => 3 | n => n, fun | n => n⟩
theorem Tryz.lays106 : Go.Proofs.Lays.n106 Tryz.prog Tryz.lays106_ren := {
  mixed := by kernel_rfl
  f106 := Tryz.func90.trans (congrArg some (by kernel_rfl))
  f213 := Tryz.func119.trans (congrArg some (by kernel_rfl))
  f265 := Tryz.func136.trans (congrArg some (by kernel_rfl))
  t3 := Tryz.underlying3
  a3 := Tryz.isAgg3
  z3 := Tryz.sizeOf3
  v3 := Tryz.zeroValue3
  t9 := Tryz.underlying9
  a9 := Tryz.isAgg9
  z9 := Tryz.sizeOf9
  v9 := Tryz.zeroValue9 }
def Tryz.lays122_ren : Go.Shelf.Ren := ⟨fun | 122 => 68 | 215 => 89 | n => n, fun | 3 => 3 | 4 => 4 | n => n, fun | n => n⟩
theorem Tryz.lays122 : Go.Proofs.Lays.n122 Tryz.prog Tryz.lays122_ren := {
  mixed := by kernel_rfl
  f122 := Tryz.func68.trans (congrArg some (by kernel_rfl))
  f215 := Tryz.func89.trans (congrArg some (by kernel_rfl))
  t3 := Tryz.underlying3
  a3 := Tryz.isAgg3
  z3 := Tryz.sizeOf3
  v3 := Tryz.zeroValue3
  t4 := Tryz.underlying4
  a4 := Tryz.isAgg4
  z4 := Tryz.sizeOf4
  v4 := Tryz.zeroValue4 }
def Tryz.laysNm216_ren : Go.Shelf.Ren := ⟨fun | 16 => 39 | n => n, fun | 24 => 36 | 9 => 9 | 4 => 4 | n => n, fun | n => n⟩
theorem Tryz.laysNm216 : Go.Proofs.Lays2.n16 Tryz.prog Tryz.laysNm216_ren := {
  mixed := by kernel_rfl
  f16 := Tryz.func39.trans (congrArg some (by kernel_rfl))
  t4 := Tryz.underlying4
  a4 := Tryz.isAgg4
  z4 := Tryz.sizeOf4
  v4 := Tryz.zeroValue4
  t9 := Tryz.underlying9
  a9 := Tryz.isAgg9
  z9 := Tryz.sizeOf9
  v9 := Tryz.zeroValue9
  t24 := Tryz.underlying36
  a24 := Tryz.isAgg36
  z24 := Tryz.sizeOf36
  v24 := Tryz.zeroValue36
  i9 := by kernel_rfl }
def Tryz.lays156_ren : Go.Shelf.Ren := ⟨fun | 156 => 35 | 165 => 59 | 166 => 60 | 169 => 61 | 240 => 79 | 241 => 80 | 276 => 108 | 277 => 109 | n => n, fun | 31 => 36 | 9 => 9 | 3 => 3 | 4 => 4 | 0 => 0 | 20 => 20 | 72 => 123 | 76 => 127 | 70 => 121 | 37 => 97 | 75 => 126 | 127 => 148 | 164 => 172 | 5 => 5 | 80 => 129 | n => n, fun | n => n⟩
theorem Tryz.lays156 : Go.Proofs.Lays.n156 Tryz.prog Tryz.lays156_ren := {
  mixed := by kernel_rfl
  f156 := Tryz.func35.trans (congrArg some (by kernel_rfl))
  f165 := Tryz.func59.trans (congrArg some (by kernel_rfl))
  f166 := Tryz.func60.trans (congrArg some (by kernel_rfl))
  f169 := Tryz.func61.trans (congrArg some (by kernel_rfl))
  f240 := Tryz.func79.trans (congrArg some (by kernel_rfl))
  f241 := Tryz.func80.trans (congrArg some (by kernel_rfl))
  f276 := Tryz.func108.trans (congrArg some (by kernel_rfl))
  f277 := Tryz.func109.trans (congrArg some (by kernel_rfl))
  t0 := Tryz.underlying0
  a0 := Tryz.isAgg0
  z0 := Tryz.sizeOf0
  v0 := Tryz.zeroValue0
  t3 := Tryz.underlying3
  a3 := Tryz.isAgg3
  z3 := Tryz.sizeOf3
  v3 := Tryz.zeroValue3
  t4 := Tryz.underlying4
  a4 := Tryz.isAgg4
  z4 := Tryz.sizeOf4
  v4 := Tryz.zeroValue4
  t9 := Tryz.underlying9
  a9 := Tryz.isAgg9
  z9 := Tryz.sizeOf9
  v9 := Tryz.zeroValue9
  t20 := Tryz.underlying20
  a20 := Tryz.isAgg20
  z20 := Tryz.sizeOf20
  v20 := Tryz.zeroValue20
  t31 := Tryz.underlying36
  a31 := Tryz.isAgg36
  z31 := Tryz.sizeOf36
  v31 := Tryz.zeroValue36
  t37 := Tryz.underlying97
  a37 := Tryz.isAgg97
  z37 := Tryz.sizeOf97
  v37 := Tryz.zeroValue97
  t70 := Tryz.underlying121
  a70 := Tryz.isAgg121
  z70 := Tryz.sizeOf121
  v70 := Tryz.zeroValue121
  t72 := Tryz.underlying123
  a72 := Tryz.isAgg123
  z72 := Tryz.sizeOf123
  v72 := Tryz.zeroValue123
  t75 := Tryz.underlying126
  a75 := Tryz.isAgg126
  z75 := Tryz.sizeOf126
  v75 := Tryz.zeroValue126
  t76 := Tryz.underlying127
  a76 := Tryz.isAgg127
  z76 := Tryz.sizeOf127
  v76 := Tryz.zeroValue127
  t127 := Tryz.underlying148
  a127 := Tryz.isAgg148
  z127 := Tryz.sizeOf148
  v127 := Tryz.zeroValue148
  t164 := Tryz.underlying172
  a164 := Tryz.isAgg172
  z164 := Tryz.sizeOf172
  v164 := Tryz.zeroValue172 }
theorem Tryz.Builder_Extra_156 : Builder.Extra Tryz.prog Tryz.lays156_ren := {
  sizeBuilder := by kernel_rfl
  liesBuilder := by kernel_rfl
  t5 := Tryz.underlying5
  a5 := Tryz.isAgg5
  z5 := Tryz.sizeOf5
  v5 := Tryz.zeroValue5
  infoByte := by kernel_rfl
  cellsByte := by kernel_rfl
  sizeByte := by kernel_rfl
  neB5 := by decide }
def Tryz.laysM171_ren : Go.Shelf.Ren := ⟨fun | 171 => 23 | 243 => 42 | 246 => 63 | 283 => 82 | 284 => 83 | 285 => 84 | 286 => 85 | 129 => 107 | 317 => 110 | 318 => 111 | 319 => 112 | 320 => 113 | 337 => 131 | 338 => 132 | n => n, fun | 3 => 3 | 9 => 9 | 2 => 2 | 4 => 4 | 171 => 149 | 0 => 0 | 53 => 150 | 37 => 97 | 5 => 5 | 173 => 153 | 212 => 177 | 51 => 171 | 20 => 20 | 213 => 178 | 46 => 147 | 232 => 207 | 233 => 208 | n => n, fun | 17 => 0 | 18 => 6 | 19 => 7 | n => n⟩
theorem Tryz.laysM171 : Go.Proofs.LaysM.n171 Tryz.prog Tryz.laysM171_ren := {
  mixed := by kernel_rfl
  f129 := Tryz.func107.trans (congrArg some (by kernel_rfl))
  f171 := Tryz.func23.trans (congrArg some (by kernel_rfl))
  f243 := Tryz.func42.trans (congrArg some (by kernel_rfl))
  f246 := Tryz.func63.trans (congrArg some (by kernel_rfl))
  f283 := Tryz.func82.trans (congrArg some (by kernel_rfl))
  f284 := Tryz.func83.trans (congrArg some (by kernel_rfl))
  f285 := Tryz.func84.trans (congrArg some (by kernel_rfl))
  f286 := Tryz.func85.trans (congrArg some (by kernel_rfl))
  f317 := Tryz.func110.trans (congrArg some (by kernel_rfl))
  f318 := Tryz.func111.trans (congrArg some (by kernel_rfl))
  f319 := Tryz.func112.trans (congrArg some (by kernel_rfl))
  f320 := Tryz.func113.trans (congrArg some (by kernel_rfl))
  f337 := Tryz.func131.trans (congrArg some (by kernel_rfl))
  f338 := Tryz.func132.trans (congrArg some (by kernel_rfl))
  t0 := Tryz.underlying0
  a0 := Tryz.isAgg0
  z0 := Tryz.sizeOf0
  v0 := Tryz.zeroValue0
  t2 := Tryz.underlying2
  a2 := Tryz.isAgg2
  z2 := Tryz.sizeOf2
  v2 := Tryz.zeroValue2
  t3 := Tryz.underlying3
  a3 := Tryz.isAgg3
  z3 := Tryz.sizeOf3
  v3 := Tryz.zeroValue3
  t4 := Tryz.underlying4
  a4 := Tryz.isAgg4
  z4 := Tryz.sizeOf4
  v4 := Tryz.zeroValue4
  t5 := Tryz.underlying5
  a5 := Tryz.isAgg5
  z5 := Tryz.sizeOf5
  v5 := Tryz.zeroValue5
  t9 := Tryz.underlying9
  a9 := Tryz.isAgg9
  z9 := Tryz.sizeOf9
  v9 := Tryz.zeroValue9
  t20 := Tryz.underlying20
  a20 := Tryz.isAgg20
  z20 := Tryz.sizeOf20
  v20 := Tryz.zeroValue20
  t37 := Tryz.underlying97
  a37 := Tryz.isAgg97
  z37 := Tryz.sizeOf97
  v37 := Tryz.zeroValue97
  t46 := Tryz.underlying147
  a46 := Tryz.isAgg147
  z46 := Tryz.sizeOf147
  v46 := Tryz.zeroValue147
  t51 := Tryz.underlying171
  a51 := Tryz.isAgg171
  z51 := Tryz.sizeOf171
  v51 := Tryz.zeroValue171
  t53 := Tryz.underlying150
  a53 := Tryz.isAgg150
  z53 := Tryz.sizeOf150
  v53 := Tryz.zeroValue150
  t171 := Tryz.underlying149
  a171 := Tryz.isAgg149
  z171 := Tryz.sizeOf149
  v171 := Tryz.zeroValue149
  t173 := Tryz.underlying153
  a173 := Tryz.isAgg153
  z173 := Tryz.sizeOf153
  v173 := Tryz.zeroValue153
  t212 := Tryz.underlying177
  a212 := Tryz.isAgg177
  z212 := Tryz.sizeOf177
  v212 := Tryz.zeroValue177
  t213 := Tryz.underlying178
  a213 := Tryz.isAgg178
  z213 := Tryz.sizeOf178
  t232 := Tryz.underlying207
  a232 := Tryz.isAgg207
  z232 := Tryz.sizeOf207
  v232 := Tryz.zeroValue207
  t233 := Tryz.underlying208
  a233 := Tryz.isAgg208
  z233 := Tryz.sizeOf208
  v233 := Tryz.zeroValue208
  g17 := by kernel_rfl
  g18 := by kernel_rfl
  g19 := by kernel_rfl
  i0 := by kernel_rfl
  i2 := by kernel_rfl
  i3 := by kernel_rfl
  i4 := by kernel_rfl
  i5 := by kernel_rfl
  i9 := by kernel_rfl
  i20 := by kernel_rfl
  i37 := by kernel_rfl
  i46 := by kernel_rfl
  i51 := by kernel_rfl
  i53 := by kernel_rfl
  i171 := by kernel_rfl
  i173 := by kernel_rfl
  i212 := by kernel_rfl
  i232 := by kernel_rfl
  i233 := by kernel_rfl
  m17 := by kernel_rfl
  m18 := by kernel_rfl
  m19 := by kernel_rfl }
def Tryz.laysC172_ren : Go.Shelf.Ren := ⟨fun | 172 => 65 | 244 => 87 | 245 => 88 | 247 => 114 | 279 => 115 | 280 => 116 | 281 => 117 | 282 => 118 | 287 => 133 | 316 => 134 | 171 => 23 | 205 => 135 | 321 => 141 | 322 => 142 | 243 => 42 | 246 => 63 | 283 => 82 | 284 => 83 | 285 => 84 | 286 => 85 | 129 => 107 | 317 => 110 | 318 => 111 | 319 => 112 | 320 => 113 | 337 => 131 | 338 => 132 | n => n, fun | 9 => 9 | 3 => 3 | 75 => 126 | 76 => 127 | 4 => 4 | 5 => 5 | 167 => 179 | 37 => 97 | 0 => 0 | 85 => 180 | 2 => 2 | 168 => 182 | 53 => 150 | 175 => 191 | 46 => 147 | 210 => 195 | 127 => 148 | 145 => 212 | 143 => 210 | 21 => 21 | 171 => 149 | 173 => 153 | 212 => 177 | 51 => 171 | 20 => 20 | 213 => 178 | 232 => 207 | 233 => 208 | 80 => 129 | n => n, fun | 15 => 2 | 16 => 3 | 17 => 0 | 18 => 6 | 19 => 7 | n => n⟩
theorem Tryz.laysC172 : Go.Proofs.LaysC.n172 Tryz.prog Tryz.laysC172_ren := {
  mixed := by kernel_rfl
  f129 := Tryz.func107.trans (congrArg some (by kernel_rfl))
  f171 := Tryz.func23.trans (congrArg some (by kernel_rfl))
  f172 := Tryz.func65.trans (congrArg some (by kernel_rfl))
  f205 := Tryz.func135.trans (congrArg some (by kernel_rfl))
  f243 := Tryz.func42.trans (congrArg some (by kernel_rfl))
  f244 := Tryz.func87.trans (congrArg some (by kernel_rfl))
  f245 := Tryz.func88.trans (congrArg some (by kernel_rfl))
  f246 := Tryz.func63.trans (congrArg some (by kernel_rfl))
  f247 := Tryz.func114.trans (congrArg some (by kernel_rfl))
  f279 := Tryz.func115.trans (congrArg some (by kernel_rfl))
  f280 := Tryz.func116.trans (congrArg some (by kernel_rfl))
  f281 := Tryz.func117.trans (congrArg some (by kernel_rfl))
  f282 := Tryz.func118.trans (congrArg some (by kernel_rfl))
  f283 := Tryz.func82.trans (congrArg some (by kernel_rfl))
  f284 := Tryz.func83.trans (congrArg some (by kernel_rfl))
  f285 := Tryz.func84.trans (congrArg some (by kernel_rfl))
  f286 := Tryz.func85.trans (congrArg some (by kernel_rfl))
  f287 := Tryz.func133.trans (congrArg some (by kernel_rfl))
  f316 := Tryz.func134.trans (congrArg some (by kernel_rfl))
  f317 := Tryz.func110.trans (congrArg some (by kernel_rfl))
  f318 := Tryz.func111.trans (congrArg some (by kernel_rfl))
  f319 := Tryz.func112.trans (congrArg some (by kernel_rfl))
  f320 := Tryz.func113.trans (congrArg some (by kernel_rfl))
  f321 := Tryz.func141.trans (congrArg some (by kernel_rfl))
  f322 := Tryz.func142.trans (congrArg some (by kernel_rfl))
  f337 := Tryz.func131.trans (congrArg some (by kernel_rfl))
  f338 := Tryz.func132.trans (congrArg some (by kernel_rfl))
  t0 := Tryz.underlying0
  a0 := Tryz.isAgg0
  z0 := Tryz.sizeOf0
  v0 := Tryz.zeroValue0
  t2 := Tryz.underlying2
  a2 := Tryz.isAgg2
  z2 := Tryz.sizeOf2
  v2 := Tryz.zeroValue2
  t3 := Tryz.underlying3
  a3 := Tryz.isAgg3
  z3 := Tryz.sizeOf3
  v3 := Tryz.zeroValue3
  t4 := Tryz.underlying4
  a4 := Tryz.isAgg4
  z4 := Tryz.sizeOf4
  v4 := Tryz.zeroValue4
  t5 := Tryz.underlying5
  a5 := Tryz.isAgg5
  z5 := Tryz.sizeOf5
  v5 := Tryz.zeroValue5
  t9 := Tryz.underlying9
  a9 := Tryz.isAgg9
  z9 := Tryz.sizeOf9
  v9 := Tryz.zeroValue9
  t20 := Tryz.underlying20
  a20 := Tryz.isAgg20
  z20 := Tryz.sizeOf20
  v20 := Tryz.zeroValue20
  t21 := Tryz.underlying21
  a21 := Tryz.isAgg21
  z21 := Tryz.sizeOf21
  v21 := Tryz.zeroValue21
  t37 := Tryz.underlying97
  a37 := Tryz.isAgg97
  z37 := Tryz.sizeOf97
  v37 := Tryz.zeroValue97
  t46 := Tryz.underlying147
  a46 := Tryz.isAgg147
  z46 := Tryz.sizeOf147
  v46 := Tryz.zeroValue147
  t51 := Tryz.underlying171
  a51 := Tryz.isAgg171
  z51 := Tryz.sizeOf171
  v51 := Tryz.zeroValue171
  t53 := Tryz.underlying150
  a53 := Tryz.isAgg150
  z53 := Tryz.sizeOf150
  v53 := Tryz.zeroValue150
  t75 := Tryz.underlying126
  a75 := Tryz.isAgg126
  z75 := Tryz.sizeOf126
  v75 := Tryz.zeroValue126
  t76 := Tryz.underlying127
  a76 := Tryz.isAgg127
  z76 := Tryz.sizeOf127
  v76 := Tryz.zeroValue127
  t85 := Tryz.underlying180
  a85 := Tryz.isAgg180
  z85 := Tryz.sizeOf180
  v85 := Tryz.zeroValue180
  t127 := Tryz.underlying148
  a127 := Tryz.isAgg148
  z127 := Tryz.sizeOf148
  v127 := Tryz.zeroValue148
  t143 := Tryz.underlying210
  a143 := Tryz.isAgg210
  z143 := Tryz.sizeOf210
  v143 := Tryz.zeroValue210
  t145 := Tryz.underlying212
  a145 := Tryz.isAgg212
  z145 := Tryz.sizeOf212
  v145 := Tryz.zeroValue212
  t167 := Tryz.underlying179
  a167 := Tryz.isAgg179
  z167 := Tryz.sizeOf179
  v167 := Tryz.zeroValue179
  t168 := Tryz.underlying182
  a168 := Tryz.isAgg182
  z168 := Tryz.sizeOf182
  v168 := Tryz.zeroValue182
  t171 := Tryz.underlying149
  a171 := Tryz.isAgg149
  z171 := Tryz.sizeOf149
  v171 := Tryz.zeroValue149
  t173 := Tryz.underlying153
  a173 := Tryz.isAgg153
  z173 := Tryz.sizeOf153
  v173 := Tryz.zeroValue153
  t175 := Tryz.underlying191
  a175 := Tryz.isAgg191
  z175 := Tryz.sizeOf191
  v175 := Tryz.zeroValue191
  t210 := Tryz.underlying195
  a210 := Tryz.isAgg195
  z210 := Tryz.sizeOf195
  v210 := Tryz.zeroValue195
  t212 := Tryz.underlying177
  a212 := Tryz.isAgg177
  z212 := Tryz.sizeOf177
  v212 := Tryz.zeroValue177
  t213 := Tryz.underlying178
  a213 := Tryz.isAgg178
  z213 := Tryz.sizeOf178
  t232 := Tryz.underlying207
  a232 := Tryz.isAgg207
  z232 := Tryz.sizeOf207
  v232 := Tryz.zeroValue207
  t233 := Tryz.underlying208
  a233 := Tryz.isAgg208
  z233 := Tryz.sizeOf208
  v233 := Tryz.zeroValue208
  g15 := by kernel_rfl
  g16 := by kernel_rfl
  g17 := by kernel_rfl
  g18 := by kernel_rfl
  g19 := by kernel_rfl
  t80 := Tryz.underlying129
  a80 := Tryz.isAgg129
  z80 := Tryz.sizeOf129
  v80 := Tryz.zeroValue129
  i0 := by kernel_rfl
  i2 := by kernel_rfl
  i3 := by kernel_rfl
  i4 := by kernel_rfl
  i5 := by kernel_rfl
  i9 := by kernel_rfl
  i20 := by kernel_rfl
  i21 := by kernel_rfl
  i37 := by kernel_rfl
  i46 := by kernel_rfl
  i51 := by kernel_rfl
  i53 := by kernel_rfl
  i75 := by kernel_rfl
  i76 := by kernel_rfl
  i80 := by kernel_rfl
  i85 := by kernel_rfl
  i127 := by kernel_rfl
  i143 := by kernel_rfl
  i145 := by kernel_rfl
  i167 := by kernel_rfl
  i168 := by kernel_rfl
  i171 := by kernel_rfl
  i173 := by kernel_rfl
  i175 := by kernel_rfl
  i210 := by kernel_rfl
  i212 := by kernel_rfl
  i232 := by kernel_rfl
  i233 := by kernel_rfl
  m15 := by kernel_rfl
  m16 := by kernel_rfl
  m17 := by kernel_rfl
  m18 := by kernel_rfl
  m19 := by kernel_rfl
  c0 := by kernel_rfl
  c2 := by kernel_rfl
  c3 := by kernel_rfl
  c4 := by kernel_rfl
  c5 := by kernel_rfl
  c9 := by kernel_rfl
  c20 := by kernel_rfl
  c21 := by kernel_rfl
  c37 := by kernel_rfl
  c46 := by kernel_rfl
  c51 := by kernel_rfl
  c53 := by kernel_rfl
  c75 := by kernel_rfl
  c76 := by kernel_rfl
  c80 := by kernel_rfl
  c85 := by kernel_rfl
  c127 := by kernel_rfl
  c143 := by kernel_rfl
  c145 := by kernel_rfl
  c167 := by kernel_rfl
  c168 := by kernel_rfl
  c171 := by kernel_rfl
  c173 := by kernel_rfl
  c175 := by kernel_rfl
  c210 := by kernel_rfl
  c212 := by kernel_rfl
  c213 := by kernel_rfl
  c232 := by kernel_rfl
  c233 := by kernel_rfl }
def Tryz.lays145_ren : Go.Shelf.Ren := ⟨fun | 145 => 64 | 220 => 86 | 219 => 96 | 217 => 122 | 225 => 123 | 224 => 124 | 267 => 125 | 266 => 138 | 314 => 139 | n => n, fun | 9 => 9 | 4 => 4 | 59 => 134 | 3 => 3 | 5 => 5 | 46 => 147 | 146 => 202 | 51 => 171 | n => n, fun | 1 => 1 | n => n⟩
theorem Tryz.lays145 : Go.Proofs.Lays.n145 Tryz.prog Tryz.lays145_ren := {
  mixed := by kernel_rfl
  f145 := Tryz.func64.trans (congrArg some (by kernel_rfl))
  f217 := Tryz.func122.trans (congrArg some (by kernel_rfl))
  f219 := Tryz.func96.trans (congrArg some (by kernel_rfl))
  f220 := Tryz.func86.trans (congrArg some (by kernel_rfl))
  f224 := Tryz.func124.trans (congrArg some (by kernel_rfl))
  f225 := Tryz.func123.trans (congrArg some (by kernel_rfl))
  f266 := Tryz.func138.trans (congrArg some (by kernel_rfl))
  f267 := Tryz.func125.trans (congrArg some (by kernel_rfl))
  f314 := Tryz.func139.trans (congrArg some (by kernel_rfl))
  t3 := Tryz.underlying3
  a3 := Tryz.isAgg3
  z3 := Tryz.sizeOf3
  v3 := Tryz.zeroValue3
  t4 := Tryz.underlying4
  a4 := Tryz.isAgg4
  z4 := Tryz.sizeOf4
  v4 := Tryz.zeroValue4
  t5 := Tryz.underlying5
  a5 := Tryz.isAgg5
  z5 := Tryz.sizeOf5
  v5 := Tryz.zeroValue5
  t9 := Tryz.underlying9
  a9 := Tryz.isAgg9
  z9 := Tryz.sizeOf9
  v9 := Tryz.zeroValue9
  t46 := Tryz.underlying147
  a46 := Tryz.isAgg147
  z46 := Tryz.sizeOf147
  v46 := Tryz.zeroValue147
  t51 := Tryz.underlying171
  a51 := Tryz.isAgg171
  z51 := Tryz.sizeOf171
  v51 := Tryz.zeroValue171
  t59 := Tryz.underlying134
  a59 := Tryz.isAgg134
  z59 := Tryz.sizeOf134
  v59 := Tryz.zeroValue134
  t146 := Tryz.underlying202
  a146 := Tryz.isAgg202
  z146 := Tryz.sizeOf202
  v146 := Tryz.zeroValue202
  g1 := by kernel_rfl }
def Tryz.laysGw17_ren : Go.Shelf.Ren := ⟨fun | 17 => 91 | 15 => 120 | 20 => 137 | n => n, fun | 9 => 9 | 23 => 157 | 4 => 4 | 3 => 3 | 0 => 0 | 21 => 21 | n => n, fun | n => n⟩
theorem Tryz.laysGw17 : Go.Proofs.LaysGw.n17 Tryz.prog Tryz.laysGw17_ren := {
  mixed := by kernel_rfl
  f15 := Tryz.func120.trans (congrArg some (by kernel_rfl))
  f17 := Tryz.func91.trans (congrArg some (by kernel_rfl))
  f20 := Tryz.func137.trans (congrArg some (by kernel_rfl))
  t0 := Tryz.underlying0
  a0 := Tryz.isAgg0
  z0 := Tryz.sizeOf0
  v0 := Tryz.zeroValue0
  i0 := by kernel_rfl
  t3 := Tryz.underlying3
  a3 := Tryz.isAgg3
  z3 := Tryz.sizeOf3
  v3 := Tryz.zeroValue3
  i3 := by kernel_rfl
  t4 := Tryz.underlying4
  a4 := Tryz.isAgg4
  z4 := Tryz.sizeOf4
  v4 := Tryz.zeroValue4
  i4 := by kernel_rfl
  t9 := Tryz.underlying9
  a9 := Tryz.isAgg9
  z9 := Tryz.sizeOf9
  v9 := Tryz.zeroValue9
  i9 := by kernel_rfl
  t21 := Tryz.underlying21
  a21 := Tryz.isAgg21
  z21 := Tryz.sizeOf21
  v21 := Tryz.zeroValue21
  i21 := by kernel_rfl
  t23 := Tryz.underlying157
  a23 := Tryz.isAgg157
  z23 := Tryz.sizeOf157
  v23 := Tryz.zeroValue157
  i23 := by kernel_rfl }
def Tryz.lays146_ren : Go.Shelf.Ren := ⟨fun | 146 => 28 | 221 => 50 | 268 => 73 | 138 => 74 | 143 => 75 | 195 => 93 | 197 => 94 | 218 => 95 | 219 => 96 | 260 => 121 | 217 => 122 | 225 => 123 | 224 => 124 | 267 => 125 | 266 => 138 | 314 => 139 | n => n, fun | 9 => 9 | 31 => 36 | 3 => 3 | 4 => 4 | 0 => 0 | 105 => 159 | 21 => 21 | 5 => 5 | 46 => 147 | 119 => 198 | 139 => 201 | 138 => 200 | 146 => 202 | 51 => 171 | n => n, fun | 1 => 1 | 3 => 4 | 4 => 5 | n => n⟩
theorem Tryz.lays146 : Go.Proofs.Lays.n146 Tryz.prog Tryz.lays146_ren := {
  mixed := by kernel_rfl
  f138 := Tryz.func74.trans (congrArg some (by kernel_rfl))
  f143 := Tryz.func75.trans (congrArg some (by kernel_rfl))
  f146 := Tryz.func28.trans (congrArg some (by kernel_rfl))
  f195 := Tryz.func93.trans (congrArg some (by kernel_rfl))
  f197 := Tryz.func94.trans (congrArg some (by kernel_rfl))
  f217 := Tryz.func122.trans (congrArg some (by kernel_rfl))
  f218 := Tryz.func95.trans (congrArg some (by kernel_rfl))
  f219 := Tryz.func96.trans (congrArg some (by kernel_rfl))
  f221 := Tryz.func50.trans (congrArg some (by kernel_rfl))
  f224 := Tryz.func124.trans (congrArg some (by kernel_rfl))
  f225 := Tryz.func123.trans (congrArg some (by kernel_rfl))
  f260 := Tryz.func121.trans (congrArg some (by kernel_rfl))
  f266 := Tryz.func138.trans (congrArg some (by kernel_rfl))
  f267 := Tryz.func125.trans (congrArg some (by kernel_rfl))
  f268 := Tryz.func73.trans (congrArg some (by kernel_rfl))
  f314 := Tryz.func139.trans (congrArg some (by kernel_rfl))
  t0 := Tryz.underlying0
  a0 := Tryz.isAgg0
  z0 := Tryz.sizeOf0
  v0 := Tryz.zeroValue0
  t3 := Tryz.underlying3
  a3 := Tryz.isAgg3
  z3 := Tryz.sizeOf3
  v3 := Tryz.zeroValue3
  t4 := Tryz.underlying4
  a4 := Tryz.isAgg4
  z4 := Tryz.sizeOf4
  v4 := Tryz.zeroValue4
  t5 := Tryz.underlying5
  a5 := Tryz.isAgg5
  z5 := Tryz.sizeOf5
  v5 := Tryz.zeroValue5
  t9 := Tryz.underlying9
  a9 := Tryz.isAgg9
  z9 := Tryz.sizeOf9
  v9 := Tryz.zeroValue9
  t21 := Tryz.underlying21
  a21 := Tryz.isAgg21
  z21 := Tryz.sizeOf21
  v21 := Tryz.zeroValue21
  t31 := Tryz.underlying36
  a31 := Tryz.isAgg36
  z31 := Tryz.sizeOf36
  v31 := Tryz.zeroValue36
  t46 := Tryz.underlying147
  a46 := Tryz.isAgg147
  z46 := Tryz.sizeOf147
  v46 := Tryz.zeroValue147
  t51 := Tryz.underlying171
  a51 := Tryz.isAgg171
  z51 := Tryz.sizeOf171
  v51 := Tryz.zeroValue171
  t105 := Tryz.underlying159
  a105 := Tryz.isAgg159
  z105 := Tryz.sizeOf159
  v105 := Tryz.zeroValue159
  t119 := Tryz.underlying198
  a119 := Tryz.isAgg198
  z119 := Tryz.sizeOf198
  t138 := Tryz.underlying200
  a138 := Tryz.isAgg200
  z138 := Tryz.sizeOf200
  v138 := Tryz.zeroValue200
  t139 := Tryz.underlying201
  a139 := Tryz.isAgg201
  z139 := Tryz.sizeOf201
  v139 := Tryz.zeroValue201
  t146 := Tryz.underlying202
  a146 := Tryz.isAgg202
  z146 := Tryz.sizeOf202
  v146 := Tryz.zeroValue202
  g1 := by kernel_rfl
  g3 := by kernel_rfl
  g4 := by kernel_rfl }
open Go.RowKit in
theorem Tryz.strings_Compare (a b : ByteArray) (w : World) :
    Calls Tryz.prog 90 #[.string a, .string b] w fun e w' => e = .returned (.int .i64 (Lib.compareBytes a.data.toList b.data.toList)) ∧ w' = w := Any.strings_Compare Tryz.lays106 a b w
open Go.RowKit in
theorem Tryz.cmp_Compare_int (x y : Int) (w : World) :
    Calls Tryz.prog 68 #[.int .i64 x, .int .i64 y] w fun e w' => e = .returned (.int .i64 (Lib.compareInt x y)) ∧ w' = w := Any.cmp_Compare_int Tryz.lays122 x y w
open Go.RowKit Go.Lib in
theorem Tryz.slices_Clone_string (b off n c : Nat) (zs : List ByteArray) (w : World) (hz : n ≤ zs.length) (hbig : n * 16 ≤ 140737488355328) (hc : ∀ j, j < zs.length → w.cell? ⟨b, off + j, none⟩ = some (.string (zs.getD j ByteArray.empty))) :
    Calls Tryz.prog 39 #[.slice (some ⟨b, off, none⟩) n c] w fun e w' => ∃ v', e = .returned v' ∧ w'.ownsRow w.heap.size 9 1 v' n ((zs.take n).map (Value.string)) ∧ v' ≠ .slice none 0 0 ∧ Below w.heap.size w w' := Any.slices_Clone_string Tryz.laysNm216 b off n c zs w hz hbig hc
open Go.RowKit Go.Lib in
theorem Tryz.slices_Clone_string_nil (n c : Nat) (w : World) :
    Calls Tryz.prog 39 #[.slice none n c] w fun e w' => e = .returned (.slice none 0 0) ∧ w' = w := Any.slices_Clone_string_nil Tryz.laysNm216 n c w
open Go.RowKit Go.Lib in
theorem Tryz.slices_Clone_string_zero (a : Addr) (c : Nat) (w : World) :
    Calls Tryz.prog 39 #[.slice (some a) 0 c] w fun e w' => ∃ v', e = .returned v' ∧ w'.ownsRow w.heap.size 9 1 v' 0 [] ∧ v' ≠ .slice none 0 0 ∧ Below w.heap.size w w' := Any.slices_Clone_string_zero Tryz.laysNm216 a c w
open Go.RowKit in
open Go.RowKit in
theorem Tryz.strings_Join (bk o c : Nat) (xs : List ByteArray) (sep : ByteArray) (w : World) (hcells : ∀ (j : Nat) x, xs[j]? = some x → w.cell? ⟨bk, o + j, none⟩ = some (.string x)) (hbk : bk < w.heap.size) (hN : xs.length ≤ 140737488355328) (hcap : xs.length ≤ c) (hlen : (Lib.join (xs.map (·.data.toList)) sep.data.toList).length ≤ 140737488355328) :
    Calls Tryz.prog 35 #[.slice (some ⟨bk, o, none⟩) xs.length c, .string sep] w fun e w' => e = .returned (.string ⟨(Lib.join (xs.map (·.data.toList)) sep.data.toList).toArray⟩) ∧ Below w.heap.size w w' := Any.strings_Join Tryz.lays156 Tryz.Builder_Extra_156 bk o c xs sep w hcells hbk hN hcap hlen
open Go.RowKit Go.Sort Go.Lib in
theorem Tryz.strconv_Itoa (n : Int) (h0 : -9223372036854775808 ≤ n) (h1 : n ≤ 9223372036854775807) (w : World) (htab : Lib.TabIs Tryz.prog w "internal/strconv.uint64pow10" .u64 Lib.pow10Tab) :
    Calls Tryz.prog 23 #[.int .i64 n] w fun e w' => e = .returned (.string ⟨(Lib.itoa n).toArray⟩) ∧ ∃ k os, w' = grow (w.drewN k) os := Any.strconv_Itoa Tryz.laysM171 n h0 h1 w htab
open Go.RowKit in
theorem Tryz.strconv_Atoi_ok (s : ByteArray) (hmax : s.size ≤ 9223372036854775806) (v : Int) (h : Lib.atoiAll s.data.toList = .ok v) (w : World) :
    Calls Tryz.prog 65 #[.string s] w fun e w' => e = .returned (.tuple #[.int .i64 v, .nilIface]) ∧ (w' = w ∨ ∃ t, w' = Lib.bytesWorld w 5 t) := Any.strconv_Atoi_ok Tryz.laysC172 s hmax v h w
open Go.RowKit in
theorem Tryz.strconv_Atoi_syntax (s : ByteArray) (hlim : s.size ≤ 281474976710656) (h : Lib.atoiAll s.data.toList = Lib.NumEnd.syntax) (ev : Value) (w : World) (hv : w.cell? ⟨2, 0, none⟩ = some ev) (hev : ev = .nilIface ∨ ∃ te pe, ev = .iface te pe) :
    Calls Tryz.prog 65 #[.string s] w fun e w' => ∃ N, e = .returned (.tuple #[.int .i64 (0), .iface 182 (.pointer (some ⟨N, 0, none⟩))]) ∧ w.heap.size ≤ N ∧ w'.heap[N]? = some (.cells #[.string ⟨#[65, 116, 111, 105]⟩, .string s, ev] 195 (0, 0)) ∧ Below w.heap.size w w' := Any.strconv_Atoi_syntax Tryz.laysC172 s hlim h ev w hv hev
open Go.RowKit in
theorem Tryz.strconv_Atoi_range (s : ByteArray) (hlim : s.size ≤ 281474976710656) (h : Lib.atoiAll s.data.toList = .range) (ev : Value) (w : World) (hv : w.cell? ⟨3, 0, none⟩ = some ev) (hev : ev = .nilIface ∨ ∃ te pe, ev = .iface te pe) :
    Calls Tryz.prog 65 #[.string s] w fun e w' => ∃ N, e = .returned (.tuple #[.int .i64 (Lib.atoiSat s.data.toList), .iface 182 (.pointer (some ⟨N, 0, none⟩))]) ∧ w.heap.size ≤ N ∧ w'.heap[N]? = some (.cells #[.string ⟨#[65, 116, 111, 105]⟩, .string s, ev] 195 (0, 0)) ∧ Below w.heap.size w w' := Any.strconv_Atoi_range Tryz.laysC172 s hlim h ev w hv hev
open Go.RowKit Go.Lib in
theorem Tryz.strings_Cut (s sep : ByteArray) (m : Int) (w : World) (hs : s.size < 4294967281) (hm : w.cell? ⟨1, 0, none⟩ = some (.int .i64 m)) :
    Calls Tryz.prog 64 #[.string s, .string sep] w fun e w' => e = .returned (.tuple #[.string ⟨(Lib.cut s.data.toList sep.data.toList).1.toArray⟩, .string ⟨(Lib.cut s.data.toList sep.data.toList).2.1.toArray⟩, .bool (Lib.cut s.data.toList sep.data.toList).2.2]) ∧ ∃ n, w' = w.drewN n := Any.strings_Cut Tryz.lays145 s sep m w hs hm
open Go.RowKit Go.Lib in
theorem Tryz.strings_ContainsFunc_runes (g : Nat) (lb : Array Value) (eg : ∀ args w, (callFunc g args).run Tryz.prog w = .ok (.enter g args) w) (p : Nat → Bool) (s : ByteArray) (w : World) (hp : PredAtRunes Tryz.prog g lb p w) :
    Calls Tryz.prog 91 #[.string s, .func (.func g) #[] lb] w fun e w' => e = .returned (.bool (decide (0 ≤ Lib.idxFunc p true s))) ∧ Below w.heap.size w w' := Any.strings_ContainsFunc_runes Tryz.laysGw17 g lb eg p s w hp
open Go.RowKit Go.Lib in
theorem Tryz.strings_Split (s sep : ByteArray) (m : Int) (w : World) (hs : s.size < 4294967281) (hm : w.cell? ⟨1, 0, none⟩ = some (.int .i64 m)) (h1 : 1 ≤ sep.size) :
    Calls Tryz.prog 28 #[.string s, .string sep] w fun e w' =>
      e = .returned (.slice (some ⟨w.heap.size, 0, none⟩) (Lib.countB s sep + 1) (Lib.countB s sep + 1)) ∧ w' = w.alloc (.cells ((Lib.splitB sep 0 (Lib.countB s sep) s).map Value.string).toArray 9) := Any.strings_Split Tryz.lays146 (by kernel_rfl) s sep m w hs hm h1
end Go.Proofs

end
