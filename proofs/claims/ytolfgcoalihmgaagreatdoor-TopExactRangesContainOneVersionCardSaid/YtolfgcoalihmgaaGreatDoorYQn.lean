/- The range of the operator = and a version's text, in plain words. No program in sight. -/
import Derived.Test.YtolfgcoalihmgaaGreatDoorZMDa
import Derived.Test.YtolfgcoalihmgaaGreatDoorZMPo
import Derived.Test.YtolfgcoalihmgaaGreatDoorZMPq
import Derived.Test.YtolfgcoalihmgaaGreatDoorZMQd
import Derived.Test.YtolfgcoalihmgaaGreatDoorYQd
namespace Go.Proofs.YtolfgcoalihmgaaGreatDoor
namespace Pl
theorem exact_term {v : Ver} (h : v.Ok) : termR (61 :: verT v) = opR [61] v := by
 rw [show (61 :: verT v) = [61] ++ verT v from rfl, term_hit (by decide) (by decide) (ref_iff.2 ⟨h, rfl⟩) (by simp)]
theorem exact_op (v : Ver) : opR [61] v = if (vrF (verNext v)).1 ≠ 0 then ([], 10) else (oneR v (verNext v), 0) := rfl
theorem next_gt {v : Ver} (_h : v.Ok) (hn : (verNext v).Ok) : verCmp v (verNext v) < 0 := (next_succ v (verNext v) fun s hs => hn.i s hs).2 (by rw [vc_self]; exact Int.le_refl _)
/-- What the text is read as. -/
theorem exact_rng {v : Ver} (h : v.Ok) : rngP (61 :: verT v) = if (vrF (verNext v)).1 ≠ 0 then ([], 10, 0) else ([⟨v, verNext v, false⟩], 0, 0) := by
 have n1 := verT_no h (c := 32) (by decide) (by decide)
 have n2 := verT_no h (c := 124) (by decide) (by decide)
 have m1 : (32 : UInt8) ∉ (61 :: verT v) := by simp [n1]
 have m2 : (124 : UInt8) ∉ (61 :: verT v) := by simp [n2]
 have hs : Lib.split (61 :: verT v) barS = [61 :: verT v] := bars_no (bar_no m2)
 have ha : altR (61 :: verT v) = if (vrF (verNext v)).1 ≠ 0 then ([], 10) else ([⟨v, verNext v, false⟩], 0) := by
  unfold altR
  rw [split_no m1]
  by_cases c : (vrF (verNext v)).1 ≠ 0
  · rw [if_pos c, altF, exact_term h, exact_op, if_pos c]
    rfl
  · rw [if_neg c]
    have e : termR (61 :: verT v) = (oneR v (verNext v), 0) := by rw [exact_term h, exact_op, if_neg c]
    have hn : (verNext v).Ok := by
     rcases vrF_cases (verNext v) with ⟨-, ok⟩ | h2
     · exact ok
     · exact absurd h2 c
    rw [altF_one e, altF, com_all (oneR_can h hn), oneR, if_pos (next_gt h hn)]
 unfold rngP
 rw [hs]
 by_cases c : (vrF (verNext v)).1 ≠ 0
 · rw [if_pos c] at ha ⊢
   have e : altsF [] 0 [61 :: verT v] = ([], 10, 0) := by rw [altsF, ha]; rfl
   rw [e]; rfl
 · rw [if_neg c] at ha ⊢
   have hn : (verNext v).Ok := by
    rcases vrF_cases (verNext v) with ⟨-, ok⟩ | h2
    · exact ok
    · exact absurd h2 c
   have hu : unionR [] [⟨v, verNext v, false⟩] = [⟨v, verNext v, false⟩] := by
    have hc : Can [⟨v, verNext v, false⟩] := Can.one ⟨h, hn, fun h => Bool.noConfusion h, fun _ => next_gt h hn⟩
    obtain ⟨h1, h2⟩ := unionR_can (a := []) (b := [⟨v, verNext v, false⟩]) Can.nil hc.ok
    exact can_ext h1 hc fun x hx => by rw [h2, hasB_nil, Bool.false_or]
   have e : altsF [] 0 [61 :: verT v] = ([⟨v, verNext v, false⟩], 0, 0) := by
    rw [altsF, ha, if_neg (by simp), altsF, hu]
   rw [e]; rfl
/-- .. and which versions are in it. -/
theorem exact_has {v w : Ver} (_h : v.Ok) (hw : w.Ok) : hasB [⟨v, verNext v, false⟩] w = true ↔ v = w := by
 rw [hasB_one, inI_iff]
 constructor
 · rintro ⟨h1, h2⟩
   rcases h2 with h2 | h2
   · cases h2
   · by_cases c : verCmp v w = 0
     · exact (verCmp_TO.eq v w trivial trivial).1 c
     · have h3 : verCmp v w < 0 := by
        have : verCmp v w ≤ 0 := h1
        omega
       have h4 := (next_succ v w fun s hs => hw.i s hs).1 h3
       have h5 := verCmp_TO.anti w (verNext v) trivial trivial
       have h6 : verCmp w (verNext v) < 0 := h2
       omega
 · rintro rfl
   have h1 := (next_succ v v fun s hs => hw.i s hs)
   have h2 : verCmp v v = 0 := vc_self v
   refine ⟨by show verCmp v v ≤ 0; omega, .inr ?_⟩
   show verCmp v (verNext v) < 0
   by_cases c : verCmp (verNext v) v ≤ 0
   · have := h1.2 c; omega
   · have := verCmp_TO.anti (verNext v) v trivial trivial
     omega
end Pl
end Go.Proofs.YtolfgcoalihmgaaGreatDoor
