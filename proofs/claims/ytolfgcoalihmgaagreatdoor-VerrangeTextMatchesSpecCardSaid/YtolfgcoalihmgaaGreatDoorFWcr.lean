/- The row of the law VerrangeTextMatchesSpec, proved: no condition. -/
import Derived.Test.YtolfgcoalihmgaaGreatDoorRows
import Derived.Test.YtolfgcoalihmgaaGreatDoorTie
import Derived.Test.YtolfgcoalihmgaaGreatDoorCards
import Derived.Test.YtolfgcoalihmgaaGreatDoorMKd
import Derived.Test.YtolfgcoalihmgaaGreatDoorMKk
import Derived.Test.YtolfgcoalihmgaaGreatDoorMDc
import Derived.Test.YtolfgcoalihmgaaGreatDoorNb
import Derived.WalkKit
import Derived.ProofKit
import Derived.OpenShut
import Derived.ShutString
import Derived.ChangeOld
import Derived.Below
import Derived.Lay
import Derived.SevenTiedAt
import Derived.Stop.Joined
namespace Go.Proofs.YtolfgcoalihmgaaGreatDoor.verrangeTextMatchesSpec
open Go.ChangeShapes Go.WideShapes Go.ChangeAt Go.RowKit
open Go.ChangeMaps (open_string shut_string)
theorem own : ownKnob Tryz.prog.godebug = none := by kernel_rfl
theorem laidOut : laidOutB Tryz.prog = true := by kernel_rfl
set_option maxRecDepth 100000 in
theorem lifted (os : Os) (started : os.Started) (H : Type) (enc : TypeId × Value → H) :
 ReturnsInHanded {} Tryz.checked os 5 .any (fun w args => (Rows.verrangeTextMatchesSpecSpec.pre enc Tryz.prog Tryz.f5 Rows.verrangeTextMatchesSpecRow.domain false w args ∧ laidMetH Tryz.prog laidList w) ∧ sizedMet enc Tryz.prog Tryz.f5 (OpenSpec.ofChange Rows.verrangeTextMatchesSpecSpec) false w args) (Rows.verrangeTextMatchesSpecSpec.post enc Tryz.prog Tryz.f5 false true false false) := by
 refine handed_laid_shaped (C := Tryz.checked) (X := fun w _ => laidMetH Tryz.prog laidList w) (fun _ _ _ hh h => h.of_heap hh) own started (by kernel_rfl) Tryz.func5
  (ChangeSpec.witness_shaped (enc := enc) (C := Tryz.checked) (os := os) (X := fun w _ => laidMetH Tryz.prog laidList w) false (World.laidAll Tryz.prog os laidList) #[.agg #[.slice none 0 0], .string ⟨#[]⟩] 8 (World.laidAll_os _ _ _)
    (World.shaped_of_ZipB (by kernel_rfl) (by kernel_rfl)) (by kernel_rfl) (by kernel_rfl) (by kernel_rfl)
    (by rw [MakeChecks.laidMetH_plain _ _ _ (by kernel_rfl)]; exact laidMet_laidAll _ (by kernel_rfl) (by kernel_rfl))) ?_
 intro W base args ds gs before hval0 hW hL hSh
 have EN := env_of hL hSh
 have hval : ∀ (j : Nat) t v, Tryz.f5.params[j]? = some t → args[j]? = some v → Value.okWide Tryz.prog W .any base t v := hval0
 have hW' := hW
 obtain ⟨p, q, hA0, hV, rfl, hfz, hnd⟩ := hW
 have hA : DataW.TrodAll enc Tryz.prog W 0 (fun _ => true) true Tryz.f5.params.toList args.toList ds p := hA0
 rw [Tryz.params5] at hA hval
 obtain ⟨v0, vs0, d0, ds0, p0, q0, hargs, rfl, rfl, h0, r0⟩ := trodAll_cons hA
 obtain ⟨v1, vs1, d1, ds1, p1, q1, rfl, rfl, rfl, h1, r1⟩ := trodAll_cons r0
 obtain ⟨rfl, rfl, rfl⟩ := trodAll_nil r1
 obtain rfl : args = #[v0, v1] := by cases args; simp_all
 obtain ⟨rfl, rfl⟩ := trodVars_none hV
 have k0 := h0
 have lt0 : ∀ x ∈ p0, x.block < W.heap.size := by obtain ⟨m, hm⟩ := k0; exact DataW.trod_lt m _ _ _ hm
 obtain ⟨cs0, hv0, -⟩ := okWide_struct Tryz.underlying33 (hval 0 33 v0 rfl rfl)
 subst hv0
 obtain ⟨fu0, hf0⟩ := h0
 obtain ⟨z0, hz0, wz0⟩ : ∃ z : Sh.T Sh.rng, Sh.Holds W Sh.rng cs0.toList z ∧ Sh.Wf Sh.rng z := (Sh.open_sh Sh.rng).1 33 _ _ _ (by kernel_rfl) hf0
 obtain ⟨ka0, kc0, hc0, s0⟩ := Sh.rng_is hz0 wz0
 have hx0 : cs0 = #[.slice ka0 (Sh.toRng z0).length kc0] := by cases cs0; simpa using hc0
 clear hc0
 subst hx0
 clear hf0 hz0
 have k1 := h1
 have lt1 : ∀ x ∈ p1, x.block < W.heap.size := by obtain ⟨m, hm⟩ := k1; exact DataW.trod_lt m _ _ _ hm
 obtain ⟨z1, hv1⟩ := okWide_string Tryz.underlying9 (hval 1 9 v1 rfl rfl)
 subst hv1
 obtain ⟨fu1, hf1⟩ := h1
 obtain ⟨zl1, hz1, wz1⟩ : ∃ z : List UInt8, Sh.Holds W .str [.string z1] z ∧ Sh.Wf .str z := (Sh.open_sh .str).1 9 _ _ _ (by kernel_rfl) hf1
 have m1 : z1.size ≤ 9223372036854775807 := by have h : [Value.string z1] = [.string ⟨zl1.toArray⟩] := hz1; simp only [List.cons.injEq, Value.string.injEq, and_true] at h; rw [h]; exact wz1
 clear hf1 hz1
 clear hA0 hval0 hL hSh
 refine (VerrangeTextMatchesSpec_any (Sh.toRng z0) z1 ka0 kc0 W s0 m1 EN).mono fun e W' ⟨he, bel⟩ => ?_
 subst he
 exact ⟨_, rfl, _, _, _, [], _, [], hW', trodAll_mk1 (shut_bool Tryz.underlying4 _), (trodAll_cons_mk (Below.trod laidOut (by kernel_rfl) (of_decide_eq_true (by kernel_rfl)) k0 bel lt0) (trodAll_cons_mk (Below.trod laidOut (by kernel_rfl) (of_decide_eq_true (by kernel_rfl)) k1 bel lt1) trodAll_mk0)), rfl, bel.frame _, fun h => by cases h⟩
set_option maxHeartbeats 8000000 in
theorem closed : joinedFacts Tryz.prog 5 Tryz.f5 Rows.verrangeTextMatchesSpecSpec Rows.verrangeTextMatchesSpecRow = true := by
 unfold joinedFacts
 simp only [Bool.and_eq_true]
 repeat' apply And.intro
 all_goals (as_aux_lemma => kernel_rfl)
theorem row : Rows.VerrangeTextMatchesSpecSaid :=
 OpenClaim.holds_of_wide 5 Tryz.f5 rfl rfl rfl rfl rfl rfl rfl ⟨rfl, rfl, rfl, rfl, rfl⟩ rfl rfl rfl rfl rfl (by kernel_rfl) Tryz.func5 closed
  (of_decide_eq_true (by kernel_rfl)) (by unfold Func.isWrapper; rw [if_neg (by decide +kernel)]; exact ⟨rfl, rfl⟩)
  (fun os started H enc _ => lifted os started H enc)
end Go.Proofs.YtolfgcoalihmgaaGreatDoor.verrangeTextMatchesSpec
