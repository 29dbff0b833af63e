/- The law ThresholdIsMonotone returns true for all its arguments. No condition. -/
import Derived.Test.YtbbjniahaogdnaaRows
import Derived.Test.YtbbjniahaogdnaaXj
import Derived.Test.YtbbjniahaogdnaaKi
import Derived.WalkKit
import Derived.ProofKit
import Derived.OpenShut
import Derived.ShutString
import Derived.ChangeOld
import Derived.Below
namespace Go.Proofs.Ytbbjniahaogdnaa.thresholdIsMonotone
open Go.ChangeShapes Go.WideShapes Go.ChangeAt Go.RowKit
open Go.ChangeMaps (open_string shut_string)

theorem own : ownKnob Try.prog.godebug = none := by kernel_rfl
theorem laidOut : laidOutB Try.prog = true := by kernel_rfl

set_option maxRecDepth 100000 in
theorem lifted (os : Os) (started : os.Started) (H : Type) (enc : TypeId × Value → H) :
    ReturnsInHanded {} Try.checked os 9 .any (Rows.thresholdIsMonotoneSpec.pre6 enc Try.prog Try.f9 Rows.thresholdIsMonotoneRow.domain false) (Rows.thresholdIsMonotoneSpec.post enc Try.prog Try.f9 false true false false) := by
  refine returnsInHanded_of_change (C := Try.checked) own started (by kernel_rfl) Try.func9
    (ChangeSpec.witness6 (enc := enc) (C := Try.checked) false ⟨#[], #[.slice none 0 0, .int .i64 0, .int .i64 0, .slice none 0 0, .slice none 0 0, .slice none 0 0], []⟩ 8 (by kernel_rfl) (by kernel_rfl) (by kernel_rfl) (by kernel_rfl)) ?_
  intro W base args ds gs before hval0 hW hcnd _
  have hval : ∀ (j : Nat) t v, Try.f9.params[j]? = some t → args[j]? = some v → Value.okWide Try.prog W .any base t v := hval0
  have hW' := hW
  obtain ⟨p, q, hA0, hV, rfl, hfz, hnd⟩ := hW
  have hA : DataW.TrodAll enc Try.prog W 0 (fun _ => true) true Try.f9.params.toList args.toList ds p := hA0
  rw [Try.params9] at hA hval
  obtain ⟨v0, vs0, d0, ds0, p0, q0, hargs, rfl, rfl, h0, r0⟩ := trodAll_cons hA
  obtain ⟨v1, vs1, d1, ds1, p1, q1, rfl, rfl, rfl, h1, r1⟩ := trodAll_cons r0
  obtain ⟨v2, vs2, d2, ds2, p2, q2, rfl, rfl, rfl, h2, r2⟩ := trodAll_cons r1
  obtain ⟨v3, vs3, d3, ds3, p3, q3, rfl, rfl, rfl, h3, r3⟩ := trodAll_cons r2
  obtain ⟨v4, vs4, d4, ds4, p4, q4, rfl, rfl, rfl, h4, r4⟩ := trodAll_cons r3
  obtain ⟨v5, vs5, d5, ds5, p5, q5, rfl, rfl, rfl, h5, r5⟩ := trodAll_cons r4
  obtain ⟨rfl, rfl, rfl⟩ := trodAll_nil r5
  obtain rfl : args = #[v0, v1, v2, v3, v4, v5] := by cases args; simp_all
  obtain ⟨rfl, rfl⟩ := trodVars_none hV
  obtain ⟨b0, len0, e0, rfl⟩ := okWide_slice Try.underlying23 (hval 0 23 v0 rfl rfl)
  have k0 := h0
  have lt0 : ∀ x ∈ p0, x.block < W.heap.size := by obtain ⟨m, hm⟩ := k0; exact DataW.trod_lt m _ _ _ hm
  obtain ⟨fu0, hf0⟩ := h0
  obtain ⟨z0, hz0, wz0⟩ : ∃ z : List Int, Sh.Holds W (.sl .int) [.slice b0 len0 e0] z ∧ Sh.Wf (.sl .int) z := (Sh.open_sh (.sl .int)).1 23 _ _ _ (by kernel_rfl) hf0
  obtain ⟨a0, cap0, hv0, s0⟩ := Sh.Holds.ints hz0
  have m0 : z0.length ≤ 9223372036854775807 := wz0.1
  clear hf0 hz0
  cases hv0
  obtain ⟨a1, rfl, rfl, rfl, w1⟩ := open_int Try.underlying3 (hval 1 3 v1 rfl rfl) h1
  obtain ⟨a2, rfl, rfl, rfl, w2⟩ := open_int Try.underlying3 (hval 2 3 v2 rfl rfl) h2
  obtain ⟨b3, len3, e3, rfl⟩ := okWide_slice Try.underlying22 (hval 3 22 v3 rfl rfl)
  have k3 := h3
  have lt3 : ∀ x ∈ p3, x.block < W.heap.size := by obtain ⟨m, hm⟩ := k3; exact DataW.trod_lt m _ _ _ hm
  obtain ⟨fu3, hf3⟩ := h3
  obtain ⟨z3, hz3, wz3⟩ : ∃ z : List UInt8, Sh.Holds W (.sl .byte) [.slice b3 len3 e3] z ∧ Sh.Wf (.sl .byte) z := (Sh.open_sh (.sl .byte)).1 22 _ _ _ (by kernel_rfl) hf3
  obtain ⟨a3, cap3, hv3, s3⟩ := Sh.Holds.bytes hz3
  have m3 : z3.length ≤ 9223372036854775807 := wz3.1
  clear hf3 hz3
  cases hv3
  obtain ⟨b4, len4, e4, rfl⟩ := okWide_slice Try.underlying43 (hval 4 43 v4 rfl rfl)
  have k4 := h4
  have lt4 : ∀ x ∈ p4, x.block < W.heap.size := by obtain ⟨m, hm⟩ := k4; exact DataW.trod_lt m _ _ _ hm
  obtain ⟨fu4, hf4⟩ := h4
  obtain ⟨z4, hz4, wz4⟩ : ∃ z : List Sh.pair.T, Sh.Holds W (.sl Sh.pair) [.slice b4 len4 e4] z ∧ Sh.Wf (.sl Sh.pair) z := (Sh.open_sh (.sl Sh.pair)).1 43 _ _ _ (by kernel_rfl) hf4
  obtain ⟨l4, a4, cap4, hl4, hv4, s4⟩ := Sh.Holds.pairs hz4
  have m4 : l4.length ≤ 9223372036854775807 := by rw [hl4]; exact wz4.1
  clear hf4 hz4
  cases hv4
  obtain ⟨b5, len5, e5, rfl⟩ := okWide_slice Try.underlying43 (hval 5 43 v5 rfl rfl)
  have k5 := h5
  have lt5 : ∀ x ∈ p5, x.block < W.heap.size := by obtain ⟨m, hm⟩ := k5; exact DataW.trod_lt m _ _ _ hm
  obtain ⟨fu5, hf5⟩ := h5
  obtain ⟨z5, hz5, wz5⟩ : ∃ z : List Sh.pair.T, Sh.Holds W (.sl Sh.pair) [.slice b5 len5 e5] z ∧ Sh.Wf (.sl Sh.pair) z := (Sh.open_sh (.sl Sh.pair)).1 43 _ _ _ (by kernel_rfl) hf5
  obtain ⟨l5, a5, cap5, hl5, hv5, s5⟩ := Sh.Holds.pairs hz5
  have m5 : l5.length ≤ 9223372036854775807 := by rw [hl5]; exact wz5.1
  clear hf5 hz5
  cases hv5
  clear hA0 hval0
  refine (ThresholdIsMonotone_main a1 a2 z0 z3 l4 l5 b0 b3 b4 b5 e0 e3 e4 e5 W s0 m0 s3 m3 s4 m4 s5 m5).mono fun e W' ⟨he, bel⟩ => ?_
  subst he
  exact ⟨_, rfl, _, _, _, [], _, [], hW', trodAll_mk1 (shut_bool Try.underlying4 _), (trodAll_cons_mk (Below.trod laidOut (by kernel_rfl) (of_decide_eq_true (by kernel_rfl)) k0 bel lt0) (trodAll_cons_mk (shut_int Try.underlying3 w1) (trodAll_cons_mk (shut_int Try.underlying3 w2) (trodAll_cons_mk (Below.trod laidOut (by kernel_rfl) (of_decide_eq_true (by kernel_rfl)) k3 bel lt3) (trodAll_cons_mk (Below.trod laidOut (by kernel_rfl) (of_decide_eq_true (by kernel_rfl)) k4 bel lt4) (trodAll_cons_mk (Below.trod laidOut (by kernel_rfl) (of_decide_eq_true (by kernel_rfl)) k5 bel lt5) trodAll_mk0)))))), rfl, bel.frame _, fun h => by cases h⟩

theorem over : Rows.thresholdIsMonotoneRow.holds Try.pinned (OpenSpec.ofChange Rows.thresholdIsMonotoneSpec) :=
  OpenClaim.holds_of_wide 9 Try.f9 rfl rfl rfl rfl rfl rfl rfl ⟨rfl, rfl, rfl, rfl, rfl⟩ rfl rfl rfl rfl rfl (by kernel_rfl) Try.func9 (by kernel_rfl)
    (of_decide_eq_true (by kernel_rfl)) (by unfold Func.isWrapper; rw [if_neg (by decide +kernel)]; exact ⟨rfl, rfl⟩)
    (fun os started H enc _ => lifted os started H enc)

theorem proved : Rows.ThresholdIsMonotoneSaid := over
#print axioms proved
end Go.Proofs.Ytbbjniahaogdnaa.thresholdIsMonotone
