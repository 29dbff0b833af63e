/- The law RolesMatchSpec holds for all arguments. -/
import Derived.Test.YtplcbhcbahiheaaRows
import Derived.Test.YtplcbhcbahiheaaRi
import Derived.Test.YtplcbhcbahiheaaKi
import Derived.WalkKit
import Derived.ProofKit
import Derived.OpenShut
import Derived.ShutString
import Derived.ChangeOld
import Derived.Below
namespace Go.Proofs.Ytplcbhcbahiheaa.rolesMatchSpec
open Go.ChangeShapes Go.WideShapes Go.ChangeAt Go.RowKit
open Go.ChangeMaps (open_string shut_string)

theorem own : ownKnob Try.prog.godebug = none := by kernel_rfl
theorem laidOut : laidOutB Try.prog = true := by kernel_rfl

set_option maxRecDepth 100000 in
theorem lifted (os : Os) (started : os.Started) (H : Type) (enc : TypeId × Value → H) :
    ReturnsInHanded {} Try.checked os 9 .any (Rows.rolesMatchSpecSpec.pre6 enc Try.prog Try.f9 Rows.rolesMatchSpecRow.domain false) (Rows.rolesMatchSpecSpec.post enc Try.prog Try.f9 false true false false) := by
  refine returnsInHanded_of_change (C := Try.checked) own started (by kernel_rfl) Try.func9
    (ChangeSpec.witness6 (enc := enc) (C := Try.checked) false ⟨#[], #[.slice none 0 0, .string ⟨#[]⟩, .slice none 0 0, .slice none 0 0], []⟩ 8 (by kernel_rfl) (by kernel_rfl) (by kernel_rfl) (by kernel_rfl)) ?_
  intro W base args ds gs before hval0 hW hcnd _
  have hval : ∀ (j : Nat) t v, Try.f9.params[j]? = some t → args[j]? = some v → Value.okWide Try.prog W .any base t v := hval0
  have hW' := hW
  obtain ⟨p, q, hA0, hV, rfl, hfz, hnd⟩ := hW
  have hA : DataW.TrodAll enc Try.prog W 0 (fun _ => true) true Try.f9.params.toList args.toList ds p := hA0
  rw [Try.params9] at hA hval
  obtain ⟨v0, vs0, d0, ds0, p0, q0, hargs, rfl, rfl, h0, r0⟩ := trodAll_cons hA
  obtain ⟨v1, vs1, d1, ds1, p1, q1, rfl, rfl, rfl, h1, r1⟩ := trodAll_cons r0
  obtain ⟨v2, vs2, d2, ds2, p2, q2, rfl, rfl, rfl, h2, r2⟩ := trodAll_cons r1
  obtain ⟨v3, vs3, d3, ds3, p3, q3, rfl, rfl, rfl, h3, r3⟩ := trodAll_cons r2
  obtain ⟨rfl, rfl, rfl⟩ := trodAll_nil r3
  obtain rfl : args = #[v0, v1, v2, v3] := by cases args; simp_all
  obtain ⟨rfl, rfl⟩ := trodVars_none hV
  obtain ⟨b0, len0, e0, rfl⟩ := okWide_slice Try.underlying44 (hval 0 44 v0 rfl rfl)
  have k0 := h0
  have lt0 : ∀ x ∈ p0, x.block < W.heap.size := by obtain ⟨m, hm⟩ := k0; exact DataW.trod_lt m _ _ _ hm
  obtain ⟨fu0, hf0⟩ := h0
  obtain ⟨z0, hz0, wz0⟩ : ∃ z : List Sh.role.T, Sh.Holds W (.sl Sh.role) [.slice b0 len0 e0] z ∧ Sh.Wf (.sl Sh.role) z := (Sh.open_sh (.sl Sh.role)).1 44 _ _ _ (by kernel_rfl) hf0
  obtain ⟨l0, a0, cap0, hl0, hv0, s0⟩ := Sh.Holds.roles hz0 wz0
  have m0 : l0.length ≤ 9223372036854775807 := (by rw [hl0]; exact wz0.1)
  clear hf0 hz0
  cases hv0
  have k1 := h1
  have lt1 : ∀ x ∈ p1, x.block < W.heap.size := by obtain ⟨m, hm⟩ := k1; exact DataW.trod_lt m _ _ _ hm
  obtain ⟨z1, hv1⟩ := okWide_string Try.underlying9 (hval 1 9 v1 rfl rfl)
  subst hv1
  obtain ⟨fu1, hf1⟩ := h1
  obtain ⟨zl1, hz1, wz1⟩ : ∃ z : List UInt8, Sh.Holds W .str [.string z1] z ∧ Sh.Wf .str z := (Sh.open_sh .str).1 9 _ _ _ (by kernel_rfl) hf1
  have m1 : z1.size ≤ 9223372036854775807 := by have h : [Value.string z1] = [.string ⟨zl1.toArray⟩] := hz1; simp only [List.cons.injEq, Value.string.injEq, and_true] at h; rw [h]; exact wz1
  clear hf1 hz1
  obtain ⟨b2, len2, e2, rfl⟩ := okWide_slice Try.underlying45 (hval 2 45 v2 rfl rfl)
  have k2 := h2
  have lt2 : ∀ x ∈ p2, x.block < W.heap.size := by obtain ⟨m, hm⟩ := k2; exact DataW.trod_lt m _ _ _ hm
  obtain ⟨fu2, hf2⟩ := h2
  obtain ⟨z2, hz2, wz2⟩ : ∃ z : List UInt8, Sh.Holds W (.sl .byte) [.slice b2 len2 e2] z ∧ Sh.Wf (.sl .byte) z := (Sh.open_sh (.sl .byte)).1 45 _ _ _ (by kernel_rfl) hf2
  obtain ⟨a2, cap2, hv2, s2⟩ := Sh.Holds.bytes hz2
  have m2 : z2.length ≤ 9223372036854775807 := wz2.1
  clear hf2 hz2
  cases hv2
  obtain ⟨b3, len3, e3, rfl⟩ := okWide_slice Try.underlying46 (hval 3 46 v3 rfl rfl)
  have k3 := h3
  have lt3 : ∀ x ∈ p3, x.block < W.heap.size := by obtain ⟨m, hm⟩ := k3; exact DataW.trod_lt m _ _ _ hm
  obtain ⟨fu3, hf3⟩ := h3
  obtain ⟨z3, hz3, wz3⟩ : ∃ z : List Sh.pair.T, Sh.Holds W (.sl Sh.pair) [.slice b3 len3 e3] z ∧ Sh.Wf (.sl Sh.pair) z := (Sh.open_sh (.sl Sh.pair)).1 46 _ _ _ (by kernel_rfl) hf3
  obtain ⟨l3, a3, cap3, hl3, hv3, s3⟩ := Sh.Holds.pairs hz3
  have m3 : l3.length ≤ 9223372036854775807 := (by rw [hl3]; exact wz3.1)
  clear hf3 hz3
  cases hv3
  clear hA0 hval0
  refine (RolesMatchSpec_main l0 z1 z2 l3 b0 b2 b3 e0 e2 e3 W s0 m1 s2 m2 s3 m3).mono fun e W' ⟨he, bel⟩ => ?_
  subst he
  exact ⟨_, rfl, _, _, _, [], _, [], hW', trodAll_mk1 (shut_bool Try.underlying4 _), (trodAll_cons_mk (Below.trod laidOut (by kernel_rfl) (of_decide_eq_true (by kernel_rfl)) k0 bel lt0) (trodAll_cons_mk (Below.trod laidOut (by kernel_rfl) (of_decide_eq_true (by kernel_rfl)) k1 bel lt1) (trodAll_cons_mk (Below.trod laidOut (by kernel_rfl) (of_decide_eq_true (by kernel_rfl)) k2 bel lt2) (trodAll_cons_mk (Below.trod laidOut (by kernel_rfl) (of_decide_eq_true (by kernel_rfl)) k3 bel lt3) trodAll_mk0)))), rfl, bel.frame _, fun h => by cases h⟩

theorem over : Rows.rolesMatchSpecRow.holds Try.pinned (OpenSpec.ofChange Rows.rolesMatchSpecSpec) :=
  OpenClaim.holds_of_wide 9 Try.f9 rfl rfl rfl rfl rfl rfl rfl ⟨rfl, rfl, rfl, rfl, rfl⟩ rfl rfl rfl rfl rfl (by kernel_rfl) Try.func9 (by kernel_rfl)
    (of_decide_eq_true (by kernel_rfl)) (by unfold Func.isWrapper; rw [if_neg (by decide +kernel)]; exact ⟨rfl, rfl⟩)
    (fun os started H enc _ => lifted os started H enc)

theorem proved : Rows.RolesMatchSpecSaid := over
#print axioms proved
end Go.Proofs.Ytplcbhcbahiheaa.rolesMatchSpec
