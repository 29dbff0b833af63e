/- Versions, their faults and their order in plain words: no program in sight. -/
import Derived.Test.YtolfgcoalihmgaaGreatDoorZMPo
import Derived.Test.YtolfgcoalihmgaaGreatDoorZMPq
import Derived.Test.YtolfgcoalihmgaaGreatDoorYWb
namespace Go.Proofs.YtolfgcoalihmgaaGreatDoor
namespace Pl
theorem lexL_succ {α : Type} {c : α → α → Int} {z : α} : ∀ (p q : List α), (∀ y ∈ q, c z y ≤ 0) → (lexL c p q < 0 ↔ lexL c (p ++ [z]) q ≤ 0)
 | [], [], _ => by simp [lexL]
 | [], y :: q, h => by
   have hy := h y (by simp)
   rw [List.nil_append, lexL, lexL]
   refine ⟨fun _ => ?_, fun _ => by omega⟩
   split
   · cases q <;> simp [lexL]
   · exact hy
 | x :: p, [], _ => by simp [lexL]
 | x :: p, y :: q, h => by
   rw [List.cons_append, lexL, lexL]
   split
   · exact lexL_succ p q fun z hz => h z (by simp [hz])
   · omega
/-- No version lies between a version and the next one. -/
theorem next_succ (a b : Ver) (hb : ∀ s ∈ b.pre, identB (bsl s) = true) : verCmp a b < 0 ↔ verCmp (verNext a) b ≤ 0 := by
 have hL := lexL_succ (c := idc) (z := zeroId) a.pre b.pre fun y hy => zero_least (hb y hy)
 rw [verCmp_eq, verCmp_eq]
 have e0 : (verNext a).pre.length ≠ 0 := by simp [verNext]
 rw [show (verNext a).maj = a.maj from rfl, show (verNext a).min = a.min from rfl, if_neg e0]
 by_cases h1 : sgn a.maj b.maj = 0
 · rw [if_pos h1, if_pos h1]
   by_cases h2 : sgn a.min b.min = 0
   · rw [if_pos h2, if_pos h2]
     by_cases hp : a.pre.length = 0
     · have hp' : a.pre = [] := List.length_eq_zero_iff.1 hp
       have e1 : (verNext a).pat = a.pat + 1 := by simp [verNext, hp]
       rw [e1, if_pos hp]
       rw [show (verNext a).pre = [zeroId] by simp [verNext, hp']]
       have g1 := sgn_self 0
       have g2 := sgn_self 1
       have g3 := sgn_lt (show (0 : Int) < 1 by omega)
       have g4 := sgn_gt (show (0 : Int) < 1 by omega)
       have hL2 : b.pre.length ≠ 0 → lexL idc [zeroId] b.pre ≤ 0 := fun hq => by
        rw [hp'] at hL
        refine hL.1 ?_
        cases h : b.pre with
        | nil => rw [h] at hq; exact absurd rfl hq
        | cons x l => rw [lexL]; omega
       have hL3 : b.pre.length = 0 → lexL idc a.pre b.pre = 0 := fun hq => by rw [hp', List.length_eq_zero_iff.1 hq]; rfl
       generalize lexL idc a.pre b.pre = X at *
       generalize lexL idc [zeroId] b.pre = Y at *
       rcases Int.lt_trichotomy a.pat b.pat with h | h | h
       · have f1 := sgn_lt h
         by_cases h4 : a.pat + 1 = b.pat
         · have f2 := sgn_self b.pat
           rw [h4]
           by_cases hq : b.pre.length = 0
           · simp [f1, f2, hq, g3]
           · simp [f1, f2, hq, g1, hL2 hq]
         · have f2 := sgn_lt (show a.pat + 1 < b.pat by omega)
           simp [f1, f2]
       · have f1 := sgn_self b.pat
         have f2 := sgn_gt (show b.pat < b.pat + 1 by omega)
         rw [h]
         by_cases hq : b.pre.length = 0
         · simp [f1, f2, hq, g2, hL3 hq]
         · simp [f1, f2, hq, g4]
       · have f1 := sgn_gt h
         have f2 := sgn_gt (show b.pat < a.pat + 1 by omega)
         simp [f1, f2]
     · have e1 : (verNext a).pat = a.pat := by simp [verNext, hp]
       rw [e1, if_neg hp]
       by_cases h3 : sgn a.pat b.pat = 0
       · rw [if_pos h3, if_pos h3]
         by_cases hq : b.pre.length = 0
         · rw [if_pos hq, sgn_lt (show (0 : Int) < 1 by omega), if_neg (by omega)]
           omega
         · rw [if_neg hq, if_pos (sgn_self 0), if_pos (sgn_self 0)]
           exact hL
       · rw [if_neg h3, if_neg h3]
         omega
   · rw [if_neg h2, if_neg h2]
     omega
 · rw [if_neg h1, if_neg h1]
   omega
end Pl
end Go.Proofs.YtolfgcoalihmgaaGreatDoor
