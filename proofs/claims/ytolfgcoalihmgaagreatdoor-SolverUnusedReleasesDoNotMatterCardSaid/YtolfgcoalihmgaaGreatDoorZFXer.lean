/- The row of the law SolverUnusedReleasesDoNotMatter, proved: no condition. -/
import Derived.Test.YtolfgcoalihmgaaGreatDoorRows
import Derived.Test.YtolfgcoalihmgaaGreatDoorTie
import Derived.Test.YtolfgcoalihmgaaGreatDoorCards
import Derived.Test.YtolfgcoalihmgaaGreatDoorZMKd
import Derived.Test.YtolfgcoalihmgaaGreatDoorZMKk
import Derived.Test.YtolfgcoalihmgaaGreatDoorZMKo
import Derived.Test.YtolfgcoalihmgaaGreatDoorZNl
import Derived.Test.YtolfgcoalihmgaaGreatDoorZEv
import Derived.WalkKit
import Derived.ProofKit
import Derived.OpenShut
import Derived.ShutString
import Derived.ChangeOld
import Derived.Below
import Derived.Lay
import Derived.SevenTiedAt
import Derived.Stop.Joined
namespace Go.Proofs.YtolfgcoalihmgaaGreatDoor.solverUnusedReleasesDoNotMatter
open Go.ChangeShapes Go.WideShapes Go.ChangeAt Go.RowKit
open Go.ChangeMaps (open_string shut_string)
theorem own : ownKnob Tryz.prog.godebug = none := by kernel_rfl
theorem laidOut : laidOutB Tryz.prog = true := by kernel_rfl
set_option maxRecDepth 100000 in
theorem lifted (os : Os) (started : os.Started) (H : Type) (enc : TypeId × Value → H) :
 ReturnsInHanded {} Tryz.checked os 10 .any (fun w args => (Rows.solverUnusedReleasesDoNotMatterSpec.pre enc Tryz.prog Tryz.f10 Rows.solverUnusedReleasesDoNotMatterRow.domain false w args ∧ laidMetH Tryz.prog laidList w) ∧ sizedMet enc Tryz.prog Tryz.f10 (OpenSpec.ofChange Rows.solverUnusedReleasesDoNotMatterSpec) false w args) (Rows.solverUnusedReleasesDoNotMatterSpec.post enc Tryz.prog Tryz.f10 false true false false) := by
 refine handed_laid_shaped (C := Tryz.checked) (X := fun w _ => laidMetH Tryz.prog laidList w) (fun _ _ _ hh h => h.of_heap hh) own started (by kernel_rfl) Tryz.func10
  (ChangeSpec.witness_shaped (enc := enc) (C := Tryz.checked) (os := os) (X := fun w _ => laidMetH Tryz.prog laidList w) false (World.laidAll Tryz.prog os laidList) #[.agg #[.slice none 0 0], .slice none 0 0, .int .i64 0, .int .i64 0] 8 (World.laidAll_os _ _ _)
    (World.shaped_of_ZipB (by kernel_rfl) (by kernel_rfl)) (by kernel_rfl) (by kernel_rfl) (by kernel_rfl)
    (by rw [MakeChecks.laidMetH_plain _ _ _ (by kernel_rfl)]; exact laidMet_laidAll _ (by kernel_rfl) (by kernel_rfl))) ?_
 intro W base args ds gs before hval0 hW hL hSh
 have EN := env_of hL hSh
 have hval : ∀ (j : Nat) t v, Tryz.f10.params[j]? = some t → args[j]? = some v → Value.okWide Tryz.prog W .any base t v := hval0
 have hW' := hW
 obtain ⟨p, q, hA0, hV, rfl, hfz, hnd⟩ := hW
 have hA : DataW.TrodAll enc Tryz.prog W 0 (fun _ => true) true Tryz.f10.params.toList args.toList ds p := hA0
 rw [Tryz.params10] at hA hval
 obtain ⟨v0, vs0, d0, ds0, p0, q0, hargs, rfl, rfl, h0, r0⟩ := trodAll_cons hA
 obtain ⟨v1, vs1, d1, ds1, p1, q1, rfl, rfl, rfl, h1, r1⟩ := trodAll_cons r0
 obtain ⟨v2, vs2, d2, ds2, p2, q2, rfl, rfl, rfl, h2, r2⟩ := trodAll_cons r1
 obtain ⟨v3, vs3, d3, ds3, p3, q3, rfl, rfl, rfl, h3, r3⟩ := trodAll_cons r2
 obtain ⟨rfl, rfl, rfl⟩ := trodAll_nil r3
 obtain rfl : args = #[v0, v1, v2, v3] := by cases args; simp_all
 obtain ⟨rfl, rfl⟩ := trodVars_none hV
 have k0 := h0
 have lt0 : ∀ x ∈ p0, x.block < W.heap.size := by obtain ⟨m, hm⟩ := k0; exact DataW.trod_lt m _ _ _ hm
 obtain ⟨cs0, hv0, -⟩ := okWide_struct Tryz.underlying56 (hval 0 56 v0 rfl rfl)
 subst hv0
 obtain ⟨fu0, hf0⟩ := h0
 obtain ⟨z0, hz0, wz0⟩ : ∃ z : Sh.T Sh.uni, Sh.Holds W Sh.uni cs0.toList z ∧ Sh.Wf Sh.uni z := (Sh.open_sh Sh.uni).1 56 _ _ _ (by kernel_rfl) hf0
 obtain ⟨ka0, kc0, hc0, s0⟩ := Sh.uni_is hz0 wz0
 have hx0 : cs0 = #[.slice ka0 (Sh.toUni z0).length kc0] := by cases cs0; simpa using hc0
 clear hc0
 subst hx0
 clear hf0 hz0
 have k1 := h1
 have lt1 : ∀ x ∈ p1, x.block < W.heap.size := by obtain ⟨m, hm⟩ := k1; exact DataW.trod_lt m _ _ _ hm
 obtain ⟨b1, len1, e1, rfl⟩ := okWide_slice Tryz.underlying57 (hval 1 57 v1 rfl rfl)
 obtain ⟨fu1, hf1⟩ := h1
 obtain ⟨z1, hz1, wz1⟩ : ∃ z : List Sh.need.T, Sh.Holds W (.sl Sh.need) [.slice b1 len1 e1] z ∧ Sh.Wf (.sl Sh.need) z := (Sh.open_sh (.sl Sh.need)).1 57 _ _ _ (by kernel_rfl) hf1
 obtain ⟨a1, cap1, hv1, s1⟩ := Sh.needs_is hz1 wz1
 clear hf1 hz1
 cases hv1
 obtain ⟨a2, rfl, rfl, rfl, w2⟩ := open_int Tryz.underlying3 (hval 2 3 v2 rfl rfl) h2
 obtain ⟨a3, rfl, rfl, rfl, w3⟩ := open_int Tryz.underlying3 (hval 3 3 v3 rfl rfl) h3
 clear hA0 hval0 hL hSh
 refine (SolverUnusedReleasesDoNotMatter_any ranges_any (Sh.toUni z0) (Sh.toNeeds z1) a2 a3 ka0 b1 kc0 e1 W s0 s1 EN).mono fun e W' ⟨he, bel⟩ => ?_
 subst he
 exact ⟨_, rfl, _, _, _, [], _, [], hW', trodAll_mk1 (shut_bool Tryz.underlying4 _), (trodAll_cons_mk (Below.trod laidOut (by kernel_rfl) (of_decide_eq_true (by kernel_rfl)) k0 bel lt0) (trodAll_cons_mk (Below.trod laidOut (by kernel_rfl) (of_decide_eq_true (by kernel_rfl)) k1 bel lt1) (trodAll_cons_mk (shut_int Tryz.underlying3 w2) (trodAll_cons_mk (shut_int Tryz.underlying3 w3) trodAll_mk0)))), rfl, bel.frame _, fun h => by cases h⟩
set_option maxHeartbeats 8000000 in
theorem closed : joinedFacts Tryz.prog 10 Tryz.f10 Rows.solverUnusedReleasesDoNotMatterSpec Rows.solverUnusedReleasesDoNotMatterRow = true := by
 unfold joinedFacts
 simp only [Bool.and_eq_true]
 repeat' apply And.intro
 all_goals (as_aux_lemma => kernel_rfl)
theorem row : Rows.SolverUnusedReleasesDoNotMatterSaid :=
 OpenClaim.holds_of_wide 10 Tryz.f10 rfl rfl rfl rfl rfl rfl rfl ⟨rfl, rfl, rfl, rfl, rfl⟩ rfl rfl rfl rfl rfl (by kernel_rfl) Tryz.func10 closed
  (of_decide_eq_true (by kernel_rfl)) (by unfold Func.isWrapper; rw [if_neg (by decide +kernel)]; exact ⟨rfl, rfl⟩)
  (fun os started H enc _ => lifted os started H enc)
end Go.Proofs.YtolfgcoalihmgaaGreatDoor.solverUnusedReleasesDoNotMatter
