/- The law ThresholdSignersAreKeys returns true for all its arguments. No condition. -/
import Derived.Test.YtbbjniahaogdnaaRows
import Derived.Test.YtbbjniahaogdnaaXm
import Derived.Test.YtbbjniahaogdnaaKi
import Derived.WalkKit
import Derived.ProofKit
import Derived.OpenShut
import Derived.ShutString
import Derived.ChangeOld
import Derived.Below
namespace Go.Proofs.Ytbbjniahaogdnaa.thresholdSignersAreKeys
open Go.ChangeShapes Go.WideShapes Go.ChangeAt Go.RowKit
open Go.ChangeMaps (open_string shut_string)

theorem own : ownKnob Try.prog.godebug = none := by kernel_rfl
theorem laidOut : laidOutB Try.prog = true := by kernel_rfl

set_option maxRecDepth 100000 in
theorem lifted (os : Os) (started : os.Started) (H : Type) (enc : TypeId × Value → H) :
    ReturnsInHanded {} Try.checked os 12 .any (Rows.thresholdSignersAreKeysSpec.pre6 enc Try.prog Try.f12 Rows.thresholdSignersAreKeysRow.domain false) (Rows.thresholdSignersAreKeysSpec.post enc Try.prog Try.f12 false true false false) := by
  refine returnsInHanded_of_change (C := Try.checked) own started (by kernel_rfl) Try.func12
    (ChangeSpec.witness6 (enc := enc) (C := Try.checked) false ⟨#[], #[.slice none 0 0, .slice none 0 0, .slice none 0 0], []⟩ 8 (by kernel_rfl) (by kernel_rfl) (by kernel_rfl) (by kernel_rfl)) ?_
  intro W base args ds gs before hval0 hW hcnd _
  have hval : ∀ (j : Nat) t v, Try.f12.params[j]? = some t → args[j]? = some v → Value.okWide Try.prog W .any base t v := hval0
  have hW' := hW
  obtain ⟨p, q, hA0, hV, rfl, hfz, hnd⟩ := hW
  have hA : DataW.TrodAll enc Try.prog W 0 (fun _ => true) true Try.f12.params.toList args.toList ds p := hA0
  rw [Try.params12] at hA hval
  obtain ⟨v0, vs0, d0, ds0, p0, q0, hargs, rfl, rfl, h0, r0⟩ := trodAll_cons hA
  obtain ⟨v1, vs1, d1, ds1, p1, q1, rfl, rfl, rfl, h1, r1⟩ := trodAll_cons r0
  obtain ⟨v2, vs2, d2, ds2, p2, q2, rfl, rfl, rfl, h2, r2⟩ := trodAll_cons r1
  obtain ⟨rfl, rfl, rfl⟩ := trodAll_nil r2
  obtain rfl : args = #[v0, v1, v2] := by cases args; simp_all
  obtain ⟨rfl, rfl⟩ := trodVars_none hV
  obtain ⟨b0, len0, e0, rfl⟩ := okWide_slice Try.underlying23 (hval 0 23 v0 rfl rfl)
  have k0 := h0
  have lt0 : ∀ x ∈ p0, x.block < W.heap.size := by obtain ⟨m, hm⟩ := k0; exact DataW.trod_lt m _ _ _ hm
  obtain ⟨fu0, hf0⟩ := h0
  obtain ⟨z0, hz0, wz0⟩ : ∃ z : List Int, Sh.Holds W (.sl .int) [.slice b0 len0 e0] z ∧ Sh.Wf (.sl .int) z := (Sh.open_sh (.sl .int)).1 23 _ _ _ (by kernel_rfl) hf0
  obtain ⟨a0, cap0, hv0, s0⟩ := Sh.Holds.ints hz0
  have m0 : z0.length ≤ 9223372036854775807 := wz0.1
  clear hf0 hz0
  cases hv0
  obtain ⟨b1, len1, e1, rfl⟩ := okWide_slice Try.underlying22 (hval 1 22 v1 rfl rfl)
  have k1 := h1
  have lt1 : ∀ x ∈ p1, x.block < W.heap.size := by obtain ⟨m, hm⟩ := k1; exact DataW.trod_lt m _ _ _ hm
  obtain ⟨fu1, hf1⟩ := h1
  obtain ⟨z1, hz1, wz1⟩ : ∃ z : List UInt8, Sh.Holds W (.sl .byte) [.slice b1 len1 e1] z ∧ Sh.Wf (.sl .byte) z := (Sh.open_sh (.sl .byte)).1 22 _ _ _ (by kernel_rfl) hf1
  obtain ⟨a1, cap1, hv1, s1⟩ := Sh.Holds.bytes hz1
  have m1 : z1.length ≤ 9223372036854775807 := wz1.1
  clear hf1 hz1
  cases hv1
  obtain ⟨b2, len2, e2, rfl⟩ := okWide_slice Try.underlying43 (hval 2 43 v2 rfl rfl)
  have k2 := h2
  have lt2 : ∀ x ∈ p2, x.block < W.heap.size := by obtain ⟨m, hm⟩ := k2; exact DataW.trod_lt m _ _ _ hm
  obtain ⟨fu2, hf2⟩ := h2
  obtain ⟨z2, hz2, wz2⟩ : ∃ z : List Sh.pair.T, Sh.Holds W (.sl Sh.pair) [.slice b2 len2 e2] z ∧ Sh.Wf (.sl Sh.pair) z := (Sh.open_sh (.sl Sh.pair)).1 43 _ _ _ (by kernel_rfl) hf2
  obtain ⟨l2, a2, cap2, hl2, hv2, s2⟩ := Sh.Holds.pairs hz2
  have m2 : l2.length ≤ 9223372036854775807 := by rw [hl2]; exact wz2.1
  clear hf2 hz2
  cases hv2
  clear hA0 hval0
  refine (ThresholdSignersAreKeys_main z0 z1 l2 b0 b1 b2 e0 e1 e2 W s0 m0 s1 m1 s2 m2).mono fun e W' ⟨he, bel⟩ => ?_
  subst he
  exact ⟨_, rfl, _, _, _, [], _, [], hW', trodAll_mk1 (shut_bool Try.underlying4 _), (trodAll_cons_mk (Below.trod laidOut (by kernel_rfl) (of_decide_eq_true (by kernel_rfl)) k0 bel lt0) (trodAll_cons_mk (Below.trod laidOut (by kernel_rfl) (of_decide_eq_true (by kernel_rfl)) k1 bel lt1) (trodAll_cons_mk (Below.trod laidOut (by kernel_rfl) (of_decide_eq_true (by kernel_rfl)) k2 bel lt2) trodAll_mk0))), rfl, bel.frame _, fun h => by cases h⟩

theorem over : Rows.thresholdSignersAreKeysRow.holds Try.pinned (OpenSpec.ofChange Rows.thresholdSignersAreKeysSpec) :=
  OpenClaim.holds_of_wide 12 Try.f12 rfl rfl rfl rfl rfl rfl rfl ⟨rfl, rfl, rfl, rfl, rfl⟩ rfl rfl rfl rfl rfl (by kernel_rfl) Try.func12 (by kernel_rfl)
    (of_decide_eq_true (by kernel_rfl)) (by unfold Func.isWrapper; rw [if_neg (by decide +kernel)]; exact ⟨rfl, rfl⟩)
    (fun os started H enc _ => lifted os started H enc)

theorem proved : Rows.ThresholdSignersAreKeysSaid := over
#print axioms proved
end Go.Proofs.Ytbbjniahaogdnaa.thresholdSignersAreKeys
