/- Plain laws of terms; facts of strings for walks. -/
import Derived.Test.YtolfgcoalihmgaaGreatDoorMDma
import Derived.Test.YtolfgcoalihmgaaGreatDoorMEm
import Derived.Test.YtolfgcoalihmgaaGreatDoorEl
import Derived.Test.YtolfgcoalihmgaaGreatDoorMBs
import Derived.Deep.CutBlock
namespace Go.Proofs.YtolfgcoalihmgaaGreatDoor
open Go.RowKit
namespace Pl
theorem ref_ok {t : List UInt8} (h : refOk t = true) : refParse t = some (refV t) ∧ (refV t).Ok := by
 unfold refOk at h
 obtain ⟨v, hv⟩ := Option.isSome_iff_exists.1 h
 have e : refV t = v := by unfold refV; rw [hv]; rfl
 rw [e]
 exact ⟨hv, (ref_iff.1 hv).1⟩
theorem termR_no {s : List UInt8} (h : s ≠ [42]) (hok : refOk (s.dropWhile opB) = false) : termR s = ([], 1) := by
 have e : refParse (s.dropWhile opB) = none := by
  unfold refOk at hok
  cases h2 : refParse (s.dropWhile opB) with
  | none => rfl
  | some v => rw [h2] at hok; cases hok
 unfold termR
 rw [if_neg h, e]
theorem termR_yes {s : List UInt8} (h : s ≠ [42]) (hok : refOk (s.dropWhile opB) = true) : termR s = if s.takeWhile opB ∈ opsL then opR (s.takeWhile opB) (refV (s.dropWhile opB)) else ([], 1) := by
 unfold termR
 rw [if_neg h, (ref_ok hok).1]
theorem op_not {c : UInt8} (h1 : ((c.toNat : Int) == 62) = false) (h2 : ((c.toNat : Int) == 60) = false) (h3 : ((c.toNat : Int) == 61) = false) (h4 : ((c.toNat : Int) == 94) = false) (h5 : ((c.toNat : Int) == 126) = false) : opB c = false := by
 unfold opB
 simp only [beq_eq_false_iff_ne, ne_eq] at h1 h2 h3 h4 h5
 simp only [Bool.or_eq_false_iff, beq_eq_false_iff_ne, ne_eq, ← UInt8.toNat_inj]
 have e1 : (62 : UInt8).toNat = 62 := rfl
 have e2 : (60 : UInt8).toNat = 60 := rfl
 have e3 : (61 : UInt8).toNat = 61 := rfl
 have e4 : (94 : UInt8).toNat = 94 := rfl
 have e5 : (126 : UInt8).toNat = 126 := rfl
 omega
theorem op_yes {c : UInt8} (h : (c.toNat : Int) = 62 ∨ (c.toNat : Int) = 60 ∨ (c.toNat : Int) = 61 ∨ (c.toNat : Int) = 94 ∨ (c.toNat : Int) = 126) : opB c = true := by
 unfold opB
 simp only [Bool.or_eq_true, beq_iff_eq, ← UInt8.toNat_inj]
 have e1 : (62 : UInt8).toNat = 62 := rfl
 have e2 : (60 : UInt8).toNat = 60 := rfl
 have e3 : (61 : UInt8).toNat = 61 := rfl
 have e4 : (94 : UInt8).toNat = 94 := rfl
 have e5 : (126 : UInt8).toNat = 126 := rfl
 omega
theorem bnd_next {op : List UInt8} (v : Ver) (h1 : op ≠ [126]) (h2 : op ≠ [94]) : bndV op v = verNext v := by unfold bndV; rw [if_neg h1, if_neg h2]
end Pl
theorem str_ne {S : ByteArray} {l : List UInt8} (h : Pl.bsl S ≠ l) : (S.toList == l) = false ∧ (S.toList == (⟨l.toArray⟩ : ByteArray).toList) = false ∧ (S.toList != l) = true ∧ (S.toList != (⟨l.toArray⟩ : ByteArray).toList) = true := by
 have h1 : (S.toList == l) = false := by rw [beq_eq_false_iff_ne, ne_eq, ba_toList]; exact h
 have h2 : (S.toList == (⟨l.toArray⟩ : ByteArray).toList) = false := by rw [beq_eq_false_iff_ne, ne_eq, ba_toList, ba_toList]; exact h
 exact ⟨h1, h2, by rw [bne, h1]; rfl, by rw [bne, h2]; rfl⟩
theorem strN (a b : List UInt8) : ((⟨a.toArray⟩ : ByteArray).toList != (⟨b.toArray⟩ : ByteArray).toList) = !decide (a = b) := by rw [bne, strB]
end Go.Proofs.YtolfgcoalihmgaaGreatDoor
