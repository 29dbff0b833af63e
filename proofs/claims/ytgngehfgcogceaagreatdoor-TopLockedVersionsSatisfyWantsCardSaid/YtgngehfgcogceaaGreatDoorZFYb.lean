/- The law TopLockedVersionsSatisfyWants, proved: no condition. -/
import Derived.Test.YtgngehfgcogceaaGreatDoorRows
import Derived.Test.YtgngehfgcogceaaGreatDoorTie
import Derived.Test.YtgngehfgcogceaaGreatDoorCards
import Derived.Test.YtgngehfgcogceaaGreatDoorZMKd
import Derived.Test.YtgngehfgcogceaaGreatDoorZMKk
import Derived.Test.YtgngehfgcogceaaGreatDoorZMKo
import Derived.Test.YtgngehfgcogceaaGreatDoorZNn
import Derived.WalkKit
import Derived.ProofKit
import Derived.OpenShut
import Derived.ShutString
import Derived.ChangeOld
import Derived.Below
import Derived.Lay
import Derived.SevenTiedAt
import Derived.Stop.Joined
namespace Go.Proofs.YtgngehfgcogceaaGreatDoor.topLockedVersionsSatisfyWants
open Go.ChangeShapes Go.WideShapes Go.ChangeAt Go.RowKit
open Go.ChangeMaps (open_string shut_string)

theorem own : ownKnob Tryz.prog.godebug = none := by kernel_rfl
theorem laidOut : laidOutB Tryz.prog = true := by kernel_rfl

set_option maxRecDepth 100000 in
theorem lifted (os : Os) (started : os.Started) (H : Type) (enc : TypeId × Value → H) :
    ReturnsInHanded {} Tryz.checked os 3 .any (fun w args => (Rows.topLockedVersionsSatisfyWantsSpec.pre enc Tryz.prog Tryz.f3 Rows.topLockedVersionsSatisfyWantsRow.domain false w args ∧ laidMetH Tryz.prog laidList w) ∧ sizedMet enc Tryz.prog Tryz.f3 (OpenSpec.ofChange Rows.topLockedVersionsSatisfyWantsSpec) false w args) (Rows.topLockedVersionsSatisfyWantsSpec.post enc Tryz.prog Tryz.f3 false true false false) := by
  refine handed_laid_shaped (C := Tryz.checked) (X := fun w _ => laidMetH Tryz.prog laidList w) (fun _ _ _ hh h => h.of_heap hh) own started (by kernel_rfl) Tryz.func3
    (ChangeSpec.witness_shaped (enc := enc) (C := Tryz.checked) (os := os) (X := fun w _ => laidMetH Tryz.prog laidList w) false (World.laidAll Tryz.prog os laidList) #[.agg #[.slice none 0 0], .slice none 0 0] 8 (World.laidAll_os _ _ _)
      (World.shaped_of_ZipB (by kernel_rfl) (by kernel_rfl)) (by kernel_rfl) (by kernel_rfl) (by kernel_rfl)
      (by rw [MakeChecks.laidMetH_plain _ _ _ (by kernel_rfl)]; exact laidMet_laidAll _ (by kernel_rfl) (by kernel_rfl))) ?_
  intro W base args ds gs before hval0 hW hL hSh
  have EN := env_of hL hSh
  have hval : ∀ (j : Nat) t v, Tryz.f3.params[j]? = some t → args[j]? = some v → Value.okWide Tryz.prog W .any base t v := hval0
  have hW' := hW
  obtain ⟨p, q, hA0, hV, rfl, hfz, hnd⟩ := hW
  have hA : DataW.TrodAll enc Tryz.prog W 0 (fun _ => true) true Tryz.f3.params.toList args.toList ds p := hA0
  rw [Tryz.params3] at hA hval
  obtain ⟨v0, vs0, d0, ds0, p0, q0, hargs, rfl, rfl, h0, r0⟩ := trodAll_cons hA
  obtain ⟨v1, vs1, d1, ds1, p1, q1, rfl, rfl, rfl, h1, r1⟩ := trodAll_cons r0
  obtain ⟨rfl, rfl, rfl⟩ := trodAll_nil r1
  obtain rfl : args = #[v0, v1] := by cases args; simp_all
  obtain ⟨rfl, rfl⟩ := trodVars_none hV
  have k0 := h0
  have lt0 : ∀ x ∈ p0, x.block < W.heap.size := by obtain ⟨m, hm⟩ := k0; exact DataW.trod_lt m _ _ _ hm
  obtain ⟨cs0, hv0, -⟩ := okWide_struct Tryz.underlying24 (hval 0 24 v0 rfl rfl)
  subst hv0
  obtain ⟨fu0, hf0⟩ := h0
  obtain ⟨z0, hz0, wz0⟩ : ∃ z : Sh.T Sh.uni, Sh.Holds W Sh.uni cs0.toList z ∧ Sh.Wf Sh.uni z := (Sh.open_sh Sh.uni).1 24 _ _ _ (by kernel_rfl) hf0
  obtain ⟨ka0, kc0, hc0, s0⟩ := Sh.uni_is hz0 wz0
  have hx0 : cs0 = #[.slice ka0 (Sh.toUni z0).length kc0] := by cases cs0; simpa using hc0
  clear hc0
  subst hx0
  clear hf0 hz0
  have k1 := h1
  have lt1 : ∀ x ∈ p1, x.block < W.heap.size := by obtain ⟨m, hm⟩ := k1; exact DataW.trod_lt m _ _ _ hm
  obtain ⟨b1, len1, e1, rfl⟩ := okWide_slice Tryz.underlying25 (hval 1 25 v1 rfl rfl)
  obtain ⟨fu1, hf1⟩ := h1
  obtain ⟨z1, hz1, wz1⟩ : ∃ z : List Sh.need.T, Sh.Holds W (.sl Sh.need) [.slice b1 len1 e1] z ∧ Sh.Wf (.sl Sh.need) z := (Sh.open_sh (.sl Sh.need)).1 25 _ _ _ (by kernel_rfl) hf1
  obtain ⟨a1, cap1, hv1, s1⟩ := Sh.needs_is hz1 wz1
  clear hf1 hz1
  cases hv1
  clear hA0 hval0 hL hSh
  refine (TopLockedVersionsSatisfyWants_any (Sh.toUni z0) (Sh.toNeeds z1) ka0 b1 kc0 e1 W s0 s1 EN).mono fun e W' ⟨he, bel⟩ => ?_
  subst he
  exact ⟨_, rfl, _, _, _, [], _, [], hW', trodAll_mk1 (shut_bool Tryz.underlying4 _), (trodAll_cons_mk (Below.trod laidOut (by kernel_rfl) (of_decide_eq_true (by kernel_rfl)) k0 bel lt0) (trodAll_cons_mk (Below.trod laidOut (by kernel_rfl) (of_decide_eq_true (by kernel_rfl)) k1 bel lt1) trodAll_mk0)), rfl, bel.frame _, fun h => by cases h⟩

set_option maxHeartbeats 8000000 in
theorem closed : joinedFacts Tryz.prog 3 Tryz.f3 Rows.topLockedVersionsSatisfyWantsSpec Rows.topLockedVersionsSatisfyWantsRow = true := by
  unfold joinedFacts
  simp only [Bool.and_eq_true]
  repeat' apply And.intro
  all_goals (as_aux_lemma => kernel_rfl)
theorem row : Rows.TopLockedVersionsSatisfyWantsSaid :=
  OpenClaim.holds_of_wide 3 Tryz.f3 rfl rfl rfl rfl rfl rfl rfl ⟨rfl, rfl, rfl, rfl, rfl⟩ rfl rfl rfl rfl rfl (by kernel_rfl) Tryz.func3 closed
    (of_decide_eq_true (by kernel_rfl)) (by unfold Func.isWrapper; rw [if_neg (by decide +kernel)]; exact ⟨rfl, rfl⟩)
    (fun os started H enc _ => lifted os started H enc)

theorem proved : Rows.TopLockedVersionsSatisfyWantsCardSaid :=
  Claim7.holds_tied_plain_at .later [] [.data, .data, .data, .data, .sentinel, .sentinel, .pinned] true (true, "3a75e6cb8045956fc8cbf017104a165d4a4b8c0ec85e7055614373cc7319be43") true row (fun _ h => by cases h) (by as_aux_lemma => kernel_rfl) (fun _ h => by cases h) topLockedVersionsSatisfyWants_row_tie rfl ⟨rfl, rfl⟩ (by as_aux_lemma => kernel_rfl) rfl
    (fun f fn hf hfn => by
      obtain rfl : f = 3 := Option.some.inj ((show Tryz.prog.funcNamed "changeforge/changeforgetop.TopLockedVersionsSatisfyWants" = some 3 by as_aux_lemma => kernel_rfl).symm.trans hf) |>.symm
      obtain rfl : fn = Tryz.f3 := (Option.some.inj (Tryz.func3.symm.trans hfn)).symm
      exact ⟨by as_aux_lemma => kernel_rfl, fun j t ht => by
        rw [Tryz.params3] at ht
        have hm : t ∈ [24, 25] := by have := Array.mem_of_getElem? ht; simp at this ⊢; omega
        have hall : ([24, 25].all fun u => !Tryz.prog.wantsStandIn u) = true := by as_aux_lemma => kernel_rfl
        exact (show Tryz.prog.wantsStandIn t = false by simpa using List.all_eq_true.1 hall t hm)⟩)
    (by as_aux_lemma => kernel_rfl)
#print axioms proved
end Go.Proofs.YtgngehfgcogceaaGreatDoor.topLockedVersionsSatisfyWants
