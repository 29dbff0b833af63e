/- The text of a range, read again, is the range. No program in sight. -/
import Derived.Test.YtolfgcoalihmgaaGreatDoorZMDa
import Derived.Test.YtolfgcoalihmgaaGreatDoorZMPo
import Derived.Test.YtolfgcoalihmgaaGreatDoorZMPq
import Derived.Test.YtolfgcoalihmgaaGreatDoorZMQd
import Derived.Test.YtolfgcoalihmgaaGreatDoorYQc
namespace Go.Proofs.YtolfgcoalihmgaaGreatDoor
namespace Pl
theorem verT_chars {v : Ver} (h : v.Ok) : ∀ c ∈ verT v, idcB c = true ∨ c = 46 := by
 have hd : ∀ (n : Int), ∀ c ∈ digS n, idcB c = true := fun n c hc => by
  have := List.all_eq_true.1 (digS_digs n) c hc
  unfold idcB; rw [this]; rfl
 have hr : ∀ l : List (List UInt8), (∀ x ∈ l, ∀ c ∈ x, idcB c = true) → ∀ c ∈ restT l, idcB c = true ∨ c = 46 := by
  intro l hl c hc
  obtain ⟨x, hx, hc⟩ := List.mem_flatMap.1 hc
  rcases List.mem_cons.1 hc with rfl | hc
  · exact .inr rfl
  · exact .inl (hl x hx c hc)
 have hid : ∀ x ∈ v.pre.map bsl, ∀ c ∈ x, idcB c = true := fun x hx c hc => by
  obtain ⟨s, hs, rfl⟩ := List.mem_map.1 hx
  exact List.all_eq_true.1 (identB_iff.1 (h.i s hs)).2.2.1 c hc
 intro c hc
 unfold verT numT at hc
 rcases List.mem_append.1 hc with hc | hc
 · simp only [List.mem_append, List.mem_cons, List.append_assoc, List.cons_append] at hc
   rcases hc with hc | rfl | hc | rfl | hc
   · exact .inl (hd _ c hc)
   · exact .inr rfl
   · exact .inl (hd _ c hc)
   · exact .inr rfl
   · exact .inl (hd _ c hc)
 · cases e : v.pre.map bsl with
   | nil => rw [e] at hc; exact (List.not_mem_nil hc).elim
   | cons x l =>
     rw [e] at hc hid
     simp only [preT, List.cons_append, List.mem_cons, List.mem_append] at hc
     rcases hc with rfl | hc | hc
     · exact .inl (by decide)
     · exact .inl (hid x (by simp) c hc)
     · exact hr l (fun y hy => hid y (by simp [hy])) c hc
theorem verT_no {v : Ver} (h : v.Ok) {c : UInt8} (h1 : idcB c = false) (h2 : c ≠ 46) : c ∉ verT v := fun hm => by
 rcases verT_chars h c hm with e | e
 · rw [h1] at e; cases e
 · exact h2 e
theorem occ_bar {s : List UInt8} {j : Nat} (h : Lib.occAt s barS j = true) : s[j]? = some 32 ∧ s[j + 1]? = some 124 := by
 unfold Lib.occAt at h
 obtain ⟨t, ht⟩ := List.isPrefixOf_iff_prefix.1 h
 have e0 := congrArg (fun l : List UInt8 => l[0]?) ht
 have e1 := congrArg (fun l : List UInt8 => l[1]?) ht
 simp only [List.getElem?_drop] at e0 e1
 exact ⟨e0.symm, e1.symm⟩
theorem bar_no {s : List UInt8} (h : (124 : UInt8) ∉ s) : ∀ j, j ≤ s.length → Lib.occAt s barS j = false := fun j _ => by
 cases e : Lib.occAt s barS j with
 | false => rfl
 | true => exact absurd (List.mem_of_getElem? (occ_bar e).2) h
theorem com_all {r : List Ivl} (h : Can r) : commonR (upR lowV) r = r := by
 obtain ⟨h1, h2⟩ := commonR_can (upR_can lowV_ok) h
 refine can_ext h1 h fun v hv => ?_
 rw [h2, show hasB (upR lowV) v = true from by rw [upR, hasB_one]; exact inI_iff.2 ⟨lowV_least hv, .inl rfl⟩, Bool.true_and]
theorem altF_one {acc : List Ivl} {t : List UInt8} {ts : List (List UInt8)} {R : List Ivl} (h : termR t = (R, 0)) : altF acc (t :: ts) = altF (commonR acc R) ts := by
 rw [altF, h, if_neg (by simp)]
end Pl
end Go.Proofs.YtolfgcoalihmgaaGreatDoor
