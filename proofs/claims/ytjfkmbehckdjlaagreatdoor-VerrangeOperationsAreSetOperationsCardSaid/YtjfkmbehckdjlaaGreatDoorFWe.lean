/- The law VerrangeOperationsAreSetOperations, proved: no condition. -/
import Derived.Test.YtjfkmbehckdjlaaGreatDoorRows
import Derived.Test.YtjfkmbehckdjlaaGreatDoorTie
import Derived.Test.YtjfkmbehckdjlaaGreatDoorCards
import Derived.Test.YtjfkmbehckdjlaaGreatDoorMCj
import Derived.Test.YtjfkmbehckdjlaaGreatDoorMKo
import Derived.Test.YtjfkmbehckdjlaaGreatDoorNe
import Derived.WalkKit
import Derived.ProofKit
import Derived.OpenShut
import Derived.ShutString
import Derived.ChangeOld
import Derived.Below
import Derived.Lay
import Derived.SevenTiedAt
import Derived.Stop.Joined
namespace Go.Proofs.YtjfkmbehckdjlaaGreatDoor.verrangeOperationsAreSetOperations
open Go.ChangeShapes Go.WideShapes Go.ChangeAt Go.RowKit
open Go.ChangeMaps (open_string shut_string)

theorem own : ownKnob Tryz.prog.godebug = none := by kernel_rfl
theorem laidOut : laidOutB Tryz.prog = true := by kernel_rfl

set_option maxRecDepth 100000 in
theorem lifted (os : Os) (started : os.Started) (H : Type) (enc : TypeId × Value → H) :
    ReturnsInHanded {} Tryz.checked os 7 .any (fun w args => (Rows.verrangeOperationsAreSetOperationsSpec.pre enc Tryz.prog Tryz.f7 Rows.verrangeOperationsAreSetOperationsRow.domain false w args ∧ laidMetH Tryz.prog laidList w) ∧ sizedMet enc Tryz.prog Tryz.f7 (OpenSpec.ofChange Rows.verrangeOperationsAreSetOperationsSpec) false w args) (Rows.verrangeOperationsAreSetOperationsSpec.post enc Tryz.prog Tryz.f7 false true false false) := by
  refine handed_laid_shaped (C := Tryz.checked) (X := fun w _ => laidMetH Tryz.prog laidList w) (fun _ _ _ hh h => h.of_heap hh) own started (by kernel_rfl) Tryz.func7
    (ChangeSpec.witness_shaped (enc := enc) (C := Tryz.checked) (os := os) (X := fun w _ => laidMetH Tryz.prog laidList w) false (World.laidAll Tryz.prog os laidList) #[.agg #[.slice none 0 0], .agg #[.slice none 0 0], .agg #[.int .i64 0, .int .i64 0, .int .i64 0, .slice none 0 0]] 8 (World.laidAll_os _ _ _)
      (World.shaped_of_ZipB (by kernel_rfl) (by kernel_rfl)) (by kernel_rfl) (by kernel_rfl) (by kernel_rfl)
      (by rw [MakeChecks.laidMetH_plain _ _ _ (by kernel_rfl)]; exact laidMet_laidAll _ (by kernel_rfl) (by kernel_rfl))) ?_
  intro W base args ds gs before hval0 hW hL hSh
  have EN := env_of hL hSh
  have hval : ∀ (j : Nat) t v, Tryz.f7.params[j]? = some t → args[j]? = some v → Value.okWide Tryz.prog W .any base t v := hval0
  have hW' := hW
  obtain ⟨p, q, hA0, hV, rfl, hfz, hnd⟩ := hW
  have hA : DataW.TrodAll enc Tryz.prog W 0 (fun _ => true) true Tryz.f7.params.toList args.toList ds p := hA0
  rw [Tryz.params7] at hA hval
  obtain ⟨v0, vs0, d0, ds0, p0, q0, hargs, rfl, rfl, h0, r0⟩ := trodAll_cons hA
  obtain ⟨v1, vs1, d1, ds1, p1, q1, rfl, rfl, rfl, h1, r1⟩ := trodAll_cons r0
  obtain ⟨v2, vs2, d2, ds2, p2, q2, rfl, rfl, rfl, h2, r2⟩ := trodAll_cons r1
  obtain ⟨rfl, rfl, rfl⟩ := trodAll_nil r2
  obtain rfl : args = #[v0, v1, v2] := by cases args; simp_all
  obtain ⟨rfl, rfl⟩ := trodVars_none hV
  have k0 := h0
  have lt0 : ∀ x ∈ p0, x.block < W.heap.size := by obtain ⟨m, hm⟩ := k0; exact DataW.trod_lt m _ _ _ hm
  obtain ⟨cs0, hv0, -⟩ := okWide_struct Tryz.underlying24 (hval 0 24 v0 rfl rfl)
  subst hv0
  obtain ⟨fu0, hf0⟩ := h0
  obtain ⟨z0, hz0, wz0⟩ : ∃ z : Sh.T Sh.rng, Sh.Holds W Sh.rng cs0.toList z ∧ Sh.Wf Sh.rng z := (Sh.open_sh Sh.rng).1 24 _ _ _ (by kernel_rfl) hf0
  obtain ⟨ka0, kc0, hc0, s0⟩ := Sh.rng_is hz0 wz0
  have hx0 : cs0 = #[.slice ka0 (Sh.toRng z0).length kc0] := by cases cs0; simpa using hc0
  clear hc0
  subst hx0
  clear hf0 hz0
  have k1 := h1
  have lt1 : ∀ x ∈ p1, x.block < W.heap.size := by obtain ⟨m, hm⟩ := k1; exact DataW.trod_lt m _ _ _ hm
  obtain ⟨cs1, hv1, -⟩ := okWide_struct Tryz.underlying24 (hval 1 24 v1 rfl rfl)
  subst hv1
  obtain ⟨fu1, hf1⟩ := h1
  obtain ⟨z1, hz1, wz1⟩ : ∃ z : Sh.T Sh.rng, Sh.Holds W Sh.rng cs1.toList z ∧ Sh.Wf Sh.rng z := (Sh.open_sh Sh.rng).1 24 _ _ _ (by kernel_rfl) hf1
  obtain ⟨ka1, kc1, hc1, s1⟩ := Sh.rng_is hz1 wz1
  have hx1 : cs1 = #[.slice ka1 (Sh.toRng z1).length kc1] := by cases cs1; simpa using hc1
  clear hc1
  subst hx1
  clear hf1 hz1
  have k2 := h2
  have lt2 : ∀ x ∈ p2, x.block < W.heap.size := by obtain ⟨m, hm⟩ := k2; exact DataW.trod_lt m _ _ _ hm
  obtain ⟨cs2, hv2, -⟩ := okWide_struct Tryz.underlying27 (hval 2 27 v2 rfl rfl)
  subst hv2
  obtain ⟨fu2, hf2⟩ := h2
  obtain ⟨z2, hz2, wz2⟩ : ∃ z : Sh.T Sh.ver, Sh.Holds W Sh.ver cs2.toList z ∧ Sh.Wf Sh.ver z := (Sh.open_sh Sh.ver).1 27 _ _ _ (by kernel_rfl) hf2
  obtain ⟨ka2, kc2, hc2, s2⟩ := Sh.ver_is hz2 wz2
  have hx2 : cs2 = #[.int .i64 (Sh.toVer z2).maj, .int .i64 (Sh.toVer z2).min, .int .i64 (Sh.toVer z2).pat, .slice ka2 (Sh.toVer z2).pre.length kc2] := by cases cs2; simpa using hc2
  clear hc2
  subst hx2
  clear hf2 hz2
  clear hA0 hval0 hL hSh
  refine (VerrangeOperationsAreSetOperations_any (Sh.toRng z0) (Sh.toRng z1) (Sh.toVer z2) ka0 ka1 ka2 kc0 kc1 kc2 W s0 s1 s2 EN).mono fun e W' ⟨he, bel⟩ => ?_
  subst he
  exact ⟨_, rfl, _, _, _, [], _, [], hW', trodAll_mk1 (shut_bool Tryz.underlying4 _), (trodAll_cons_mk (Below.trod laidOut (by kernel_rfl) (of_decide_eq_true (by kernel_rfl)) k0 bel lt0) (trodAll_cons_mk (Below.trod laidOut (by kernel_rfl) (of_decide_eq_true (by kernel_rfl)) k1 bel lt1) (trodAll_cons_mk (Below.trod laidOut (by kernel_rfl) (of_decide_eq_true (by kernel_rfl)) k2 bel lt2) trodAll_mk0))), rfl, bel.frame _, fun h => by cases h⟩

set_option maxHeartbeats 8000000 in
theorem closed : joinedFacts Tryz.prog 7 Tryz.f7 Rows.verrangeOperationsAreSetOperationsSpec Rows.verrangeOperationsAreSetOperationsRow = true := by
  unfold joinedFacts
  simp only [Bool.and_eq_true]
  repeat' apply And.intro
  all_goals (as_aux_lemma => kernel_rfl)
theorem row : Rows.VerrangeOperationsAreSetOperationsSaid :=
  OpenClaim.holds_of_wide 7 Tryz.f7 rfl rfl rfl rfl rfl rfl rfl ⟨rfl, rfl, rfl, rfl, rfl⟩ rfl rfl rfl rfl rfl (by kernel_rfl) Tryz.func7 closed
    (of_decide_eq_true (by kernel_rfl)) (by unfold Func.isWrapper; rw [if_neg (by decide +kernel)]; exact ⟨rfl, rfl⟩)
    (fun os started H enc _ => lifted os started H enc)

theorem proved : Rows.VerrangeOperationsAreSetOperationsCardSaid :=
  Claim7.holds_tied_plain_at .later [] [.data, .data, .data, .data, .sentinel, .sentinel, .pinned] true (true, "56a09ddcd0c67aa3af83060698c73fdb188e74392913be346737b13c8db53e3c") true row (fun _ h => by cases h) (by kernel_rfl) (fun _ h => by cases h) verrangeOperationsAreSetOperations_row_tie rfl ⟨rfl, rfl⟩ (by kernel_rfl) rfl
    (fun f fn hf hfn => by
      obtain rfl : f = 7 := Option.some.inj ((show Tryz.prog.funcNamed "changeforge/changeforgelaw5.VerrangeOperationsAreSetOperations" = some 7 by kernel_rfl).symm.trans hf) |>.symm
      obtain rfl : fn = Tryz.f7 := (Option.some.inj (Tryz.func7.symm.trans hfn)).symm
      exact ⟨by kernel_rfl, fun j t ht => by
        rw [Tryz.params7] at ht
        have hm : t ∈ [24, 27] := by have := Array.mem_of_getElem? ht; simp at this ⊢; omega
        have hall : ([24, 27].all fun u => !Tryz.prog.wantsStandIn u) = true := by kernel_rfl
        exact (show Tryz.prog.wantsStandIn t = false by simpa using List.all_eq_true.1 hall t hm)⟩)
    (by kernel_rfl)
#print axioms proved
end Go.Proofs.YtjfkmbehckdjlaaGreatDoor.verrangeOperationsAreSetOperations
