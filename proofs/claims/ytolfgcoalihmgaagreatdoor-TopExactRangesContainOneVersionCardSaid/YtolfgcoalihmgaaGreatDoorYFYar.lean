/- The row of the law TopExactRangesContainOneVersion, proved: no condition. -/
import Derived.Test.YtolfgcoalihmgaaGreatDoorRows
import Derived.Test.YtolfgcoalihmgaaGreatDoorTie
import Derived.Test.YtolfgcoalihmgaaGreatDoorCards
import Derived.Test.YtolfgcoalihmgaaGreatDoorZBt
import Derived.Test.YtolfgcoalihmgaaGreatDoorZDg
import Derived.Test.YtolfgcoalihmgaaGreatDoorZDj
import Derived.Test.YtolfgcoalihmgaaGreatDoorZDk
import Derived.Test.YtolfgcoalihmgaaGreatDoorZEz
import Derived.Test.YtolfgcoalihmgaaGreatDoorZMBf
import Derived.Test.YtolfgcoalihmgaaGreatDoorZMBj
import Derived.Test.YtolfgcoalihmgaaGreatDoorZMBs
import Derived.Test.YtolfgcoalihmgaaGreatDoorZMBv
import Derived.Test.YtolfgcoalihmgaaGreatDoorZMDa
import Derived.Test.YtolfgcoalihmgaaGreatDoorZMDd
import Derived.Test.YtolfgcoalihmgaaGreatDoorZMDf
import Derived.Test.YtolfgcoalihmgaaGreatDoorZMDi
import Derived.Test.YtolfgcoalihmgaaGreatDoorZMDo
import Derived.Test.YtolfgcoalihmgaaGreatDoorZMEa
import Derived.Test.YtolfgcoalihmgaaGreatDoorZMKb
import Derived.Test.YtolfgcoalihmgaaGreatDoorZMKd
import Derived.Test.YtolfgcoalihmgaaGreatDoorZMKe
import Derived.Test.YtolfgcoalihmgaaGreatDoorZMKk
import Derived.Test.YtolfgcoalihmgaaGreatDoorZMKo
import Derived.Test.YtolfgcoalihmgaaGreatDoorZMOb
import Derived.Test.YtolfgcoalihmgaaGreatDoorZMOc
import Derived.Test.YtolfgcoalihmgaaGreatDoorZMOk
import Derived.Test.YtolfgcoalihmgaaGreatDoorZMOn
import Derived.Test.YtolfgcoalihmgaaGreatDoorZMOq
import Derived.Test.YtolfgcoalihmgaaGreatDoorZMOs
import Derived.Test.YtolfgcoalihmgaaGreatDoorZMPo
import Derived.Test.YtolfgcoalihmgaaGreatDoorZMPq
import Derived.Test.YtolfgcoalihmgaaGreatDoorZMQd
import Derived.Test.YtolfgcoalihmgaaGreatDoorZMQg
import Derived.Test.YtolfgcoalihmgaaGreatDoorZMQi
import Derived.Test.YtolfgcoalihmgaaGreatDoorYKa
import Derived.Test.YtolfgcoalihmgaaGreatDoorYBe
import Derived.Test.YtolfgcoalihmgaaGreatDoorYBk
import Derived.Test.YtolfgcoalihmgaaGreatDoorYNm
import Derived.WalkKit
import Derived.ProofKit
import Derived.OpenShut
import Derived.ShutString
import Derived.ChangeOld
import Derived.Below
import Derived.Lay
import Derived.SevenTiedAt
import Derived.Stop.Joined
namespace Go.Proofs.YtolfgcoalihmgaaGreatDoor.topExactRangesContainOneVersion
open Go.ChangeShapes Go.WideShapes Go.ChangeAt Go.RowKit
open Go.ChangeMaps (open_string shut_string)
theorem own : ownKnob Tryz.prog.godebug = none := by kernel_rfl
theorem laidOut : laidOutB Tryz.prog = true := by kernel_rfl
set_option maxRecDepth 100000 in
theorem lifted (os : Os) (started : os.Started) (H : Type) (enc : TypeId × Value → H) :
 ReturnsInHanded {} Tryz.checked os 3 .any (fun w args => (Rows.topExactRangesContainOneVersionSpec.pre enc Tryz.prog Tryz.f3 Rows.topExactRangesContainOneVersionRow.domain false w args ∧ laidMetH Tryz.prog laidList w) ∧ sizedMet enc Tryz.prog Tryz.f3 (OpenSpec.ofChange Rows.topExactRangesContainOneVersionSpec) false w args) (Rows.topExactRangesContainOneVersionSpec.post enc Tryz.prog Tryz.f3 false true false false) := by
 refine handed_laid_shaped (C := Tryz.checked) (X := fun w _ => laidMetH Tryz.prog laidList w) (fun _ _ _ hh h => h.of_heap hh) own started (by kernel_rfl) Tryz.func3
  (ChangeSpec.witness_shaped (enc := enc) (C := Tryz.checked) (os := os) (X := fun w _ => laidMetH Tryz.prog laidList w) false (World.laidAll Tryz.prog os laidList) #[.agg #[.int .i64 0, .int .i64 0, .int .i64 0, .slice none 0 0], .agg #[.int .i64 0, .int .i64 0, .int .i64 0, .slice none 0 0]] 8 (World.laidAll_os _ _ _)
    (World.shaped_of_ZipB (by kernel_rfl) (by kernel_rfl)) (by kernel_rfl) (by kernel_rfl) (by kernel_rfl)
    (by rw [MakeChecks.laidMetH_plain _ _ _ (by kernel_rfl)]; exact laidMet_laidAll _ (by kernel_rfl) (by kernel_rfl))) ?_
 intro W base args ds gs before hval0 hW hL hSh
 have EN := env_of hL hSh
 have hval : ∀ (j : Nat) t v, Tryz.f3.params[j]? = some t → args[j]? = some v → Value.okWide Tryz.prog W .any base t v := hval0
 have hW' := hW
 obtain ⟨p, q, hA0, hV, rfl, hfz, hnd⟩ := hW
 have hA : DataW.TrodAll enc Tryz.prog W 0 (fun _ => true) true Tryz.f3.params.toList args.toList ds p := hA0
 rw [Tryz.params3] at hA hval
 obtain ⟨v0, vs0, d0, ds0, p0, q0, hargs, rfl, rfl, h0, r0⟩ := trodAll_cons hA
 obtain ⟨v1, vs1, d1, ds1, p1, q1, rfl, rfl, rfl, h1, r1⟩ := trodAll_cons r0
 obtain ⟨rfl, rfl, rfl⟩ := trodAll_nil r1
 obtain rfl : args = #[v0, v1] := by cases args; simp_all
 obtain ⟨rfl, rfl⟩ := trodVars_none hV
 have k0 := h0
 have lt0 : ∀ x ∈ p0, x.block < W.heap.size := by obtain ⟨m, hm⟩ := k0; exact DataW.trod_lt m _ _ _ hm
 obtain ⟨cs0, hv0, -⟩ := okWide_struct Tryz.underlying24 (hval 0 24 v0 rfl rfl)
 subst hv0
 obtain ⟨fu0, hf0⟩ := h0
 obtain ⟨z0, hz0, wz0⟩ : ∃ z : Sh.T Sh.ver, Sh.Holds W Sh.ver cs0.toList z ∧ Sh.Wf Sh.ver z := (Sh.open_sh Sh.ver).1 24 _ _ _ (by kernel_rfl) hf0
 obtain ⟨ka0, kc0, hc0, s0⟩ := Sh.ver_is hz0 wz0
 have hx0 : cs0 = #[.int .i64 (Sh.toVer z0).maj, .int .i64 (Sh.toVer z0).min, .int .i64 (Sh.toVer z0).pat, .slice ka0 (Sh.toVer z0).pre.length kc0] := by cases cs0; simpa using hc0
 clear hc0
 subst hx0
 clear hf0 hz0
 have k1 := h1
 have lt1 : ∀ x ∈ p1, x.block < W.heap.size := by obtain ⟨m, hm⟩ := k1; exact DataW.trod_lt m _ _ _ hm
 obtain ⟨cs1, hv1, -⟩ := okWide_struct Tryz.underlying24 (hval 1 24 v1 rfl rfl)
 subst hv1
 obtain ⟨fu1, hf1⟩ := h1
 obtain ⟨z1, hz1, wz1⟩ : ∃ z : Sh.T Sh.ver, Sh.Holds W Sh.ver cs1.toList z ∧ Sh.Wf Sh.ver z := (Sh.open_sh Sh.ver).1 24 _ _ _ (by kernel_rfl) hf1
 obtain ⟨ka1, kc1, hc1, s1⟩ := Sh.ver_is hz1 wz1
 have hx1 : cs1 = #[.int .i64 (Sh.toVer z1).maj, .int .i64 (Sh.toVer z1).min, .int .i64 (Sh.toVer z1).pat, .slice ka1 (Sh.toVer z1).pre.length kc1] := by cases cs1; simpa using hc1
 clear hc1
 subst hx1
 clear hf1 hz1
 clear hA0 hval0 hL hSh
 refine (TopExactRangesContainOneVersion_any (Sh.toVer z0) (Sh.toVer z1) ka0 ka1 kc0 kc1 W s0 s1 EN).mono fun e W' ⟨he, bel⟩ => ?_
 subst he
 exact ⟨_, rfl, _, _, _, [], _, [], hW', trodAll_mk1 (shut_bool Tryz.underlying4 _), (trodAll_cons_mk (Below.trod laidOut (by kernel_rfl) (of_decide_eq_true (by kernel_rfl)) k0 bel lt0) (trodAll_cons_mk (Below.trod laidOut (by kernel_rfl) (of_decide_eq_true (by kernel_rfl)) k1 bel lt1) trodAll_mk0)), rfl, bel.frame _, fun h => by cases h⟩
set_option maxHeartbeats 8000000 in
theorem closed : joinedFacts Tryz.prog 3 Tryz.f3 Rows.topExactRangesContainOneVersionSpec Rows.topExactRangesContainOneVersionRow = true := by
 unfold joinedFacts
 simp only [Bool.and_eq_true]
 repeat' apply And.intro
 all_goals (as_aux_lemma => kernel_rfl)
theorem row : Rows.TopExactRangesContainOneVersionSaid :=
 OpenClaim.holds_of_wide 3 Tryz.f3 rfl rfl rfl rfl rfl rfl rfl ⟨rfl, rfl, rfl, rfl, rfl⟩ rfl rfl rfl rfl rfl (by kernel_rfl) Tryz.func3 closed
  (of_decide_eq_true (by kernel_rfl)) (by unfold Func.isWrapper; rw [if_neg (by decide +kernel)]; exact ⟨rfl, rfl⟩)
  (fun os started H enc _ => lifted os started H enc)
end Go.Proofs.YtolfgcoalihmgaaGreatDoor.topExactRangesContainOneVersion
