/- The law RolesAddingARole holds for all arguments. -/
import Derived.Test.YtplcbhcbahiheaaRows
import Derived.Test.YtplcbhcbahiheaaRk
import Derived.Test.YtplcbhcbahiheaaKi
import Derived.WalkKit
import Derived.ProofKit
import Derived.OpenShut
import Derived.ShutString
import Derived.ChangeOld
import Derived.Below
namespace Go.Proofs.Ytplcbhcbahiheaa.rolesAddingARole
open Go.ChangeShapes Go.WideShapes Go.ChangeAt Go.RowKit
open Go.ChangeMaps (open_string shut_string)

theorem own : ownKnob Try.prog.godebug = none := by kernel_rfl
theorem laidOut : laidOutB Try.prog = true := by kernel_rfl

set_option maxRecDepth 100000 in
theorem lifted (os : Os) (started : os.Started) (H : Type) (enc : TypeId × Value → H) :
    ReturnsInHanded {} Try.checked os 12 .any (Rows.rolesAddingARoleSpec.pre6 enc Try.prog Try.f12 Rows.rolesAddingARoleRow.domain false) (Rows.rolesAddingARoleSpec.post enc Try.prog Try.f12 false true false false) := by
  refine returnsInHanded_of_change (C := Try.checked) own started (by kernel_rfl) Try.func12
    (ChangeSpec.witness6 (enc := enc) (C := Try.checked) false ⟨#[], #[.slice none 0 0, .agg #[.int .i64 0, .string ⟨#[]⟩, .slice none 0 0, .int .i64 0], .string ⟨#[]⟩], []⟩ 8 (by kernel_rfl) (by kernel_rfl) (by kernel_rfl) (by kernel_rfl)) ?_
  intro W base args ds gs before hval0 hW hcnd _
  have hval : ∀ (j : Nat) t v, Try.f12.params[j]? = some t → args[j]? = some v → Value.okWide Try.prog W .any base t v := hval0
  have hW' := hW
  obtain ⟨p, q, hA0, hV, rfl, hfz, hnd⟩ := hW
  have hA : DataW.TrodAll enc Try.prog W 0 (fun _ => true) true Try.f12.params.toList args.toList ds p := hA0
  rw [Try.params12] at hA hval
  obtain ⟨v0, vs0, d0, ds0, p0, q0, hargs, rfl, rfl, h0, r0⟩ := trodAll_cons hA
  obtain ⟨v1, vs1, d1, ds1, p1, q1, rfl, rfl, rfl, h1, r1⟩ := trodAll_cons r0
  obtain ⟨v2, vs2, d2, ds2, p2, q2, rfl, rfl, rfl, h2, r2⟩ := trodAll_cons r1
  obtain ⟨rfl, rfl, rfl⟩ := trodAll_nil r2
  obtain rfl : args = #[v0, v1, v2] := by cases args; simp_all
  obtain ⟨rfl, rfl⟩ := trodVars_none hV
  obtain ⟨b0, len0, e0, rfl⟩ := okWide_slice Try.underlying44 (hval 0 44 v0 rfl rfl)
  have k0 := h0
  have lt0 : ∀ x ∈ p0, x.block < W.heap.size := by obtain ⟨m, hm⟩ := k0; exact DataW.trod_lt m _ _ _ hm
  obtain ⟨fu0, hf0⟩ := h0
  obtain ⟨z0, hz0, wz0⟩ : ∃ z : List Sh.role.T, Sh.Holds W (.sl Sh.role) [.slice b0 len0 e0] z ∧ Sh.Wf (.sl Sh.role) z := (Sh.open_sh (.sl Sh.role)).1 44 _ _ _ (by kernel_rfl) hf0
  obtain ⟨l0, a0, cap0, hl0, hv0, s0⟩ := Sh.Holds.roles hz0 wz0
  have m0 : l0.length ≤ 9223372036854775807 := (by rw [hl0]; exact wz0.1)
  clear hf0 hz0
  cases hv0
  have k1 := h1
  have lt1 : ∀ x ∈ p1, x.block < W.heap.size := by obtain ⟨m, hm⟩ := k1; exact DataW.trod_lt m _ _ _ hm
  obtain ⟨cs1, hv1, -⟩ := okWide_struct Try.underlying55 (hval 1 55 v1 rfl rfl)
  subst hv1
  obtain ⟨fu1, hf1⟩ := h1
  obtain ⟨z1, hz1, wz1⟩ : ∃ z : Sh.T Sh.role, Sh.Holds W Sh.role cs1.toList z ∧ Sh.Wf Sh.role z := (Sh.open_sh Sh.role).1 55 _ _ _ (by kernel_rfl) hf1
  obtain ⟨ka1, kc1, hc1, s1, m1, n1⟩ := Sh.role_is hz1 wz1
  have hx1 : cs1 = (roleCells (Sh.toRole z1) ka1 kc1).toArray := by rw [← hc1]
  clear hc1
  subst hx1
  clear hf1 hz1
  have k2 := h2
  have lt2 : ∀ x ∈ p2, x.block < W.heap.size := by obtain ⟨m, hm⟩ := k2; exact DataW.trod_lt m _ _ _ hm
  obtain ⟨z2, hv2⟩ := okWide_string Try.underlying9 (hval 2 9 v2 rfl rfl)
  subst hv2
  obtain ⟨fu2, hf2⟩ := h2
  obtain ⟨zl2, hz2, wz2⟩ : ∃ z : List UInt8, Sh.Holds W .str [.string z2] z ∧ Sh.Wf .str z := (Sh.open_sh .str).1 9 _ _ _ (by kernel_rfl) hf2
  have m2 : z2.size ≤ 9223372036854775807 := by have h : [Value.string z2] = [.string ⟨zl2.toArray⟩] := hz2; simp only [List.cons.injEq, Value.string.injEq, and_true] at h; rw [h]; exact wz2
  clear hf2 hz2
  clear hA0 hval0
  refine (RolesAddingARole_main l0 (Sh.toRole z1) z2 b0 ka1 e0 kc1 W s0 s1 m1 n1 m2).mono fun e W' ⟨he, bel⟩ => ?_
  subst he
  exact ⟨_, rfl, _, _, _, [], _, [], hW', trodAll_mk1 (shut_bool Try.underlying4 _), (trodAll_cons_mk (Below.trod laidOut (by kernel_rfl) (of_decide_eq_true (by kernel_rfl)) k0 bel lt0) (trodAll_cons_mk (Below.trod laidOut (by kernel_rfl) (of_decide_eq_true (by kernel_rfl)) k1 bel lt1) (trodAll_cons_mk (Below.trod laidOut (by kernel_rfl) (of_decide_eq_true (by kernel_rfl)) k2 bel lt2) trodAll_mk0))), rfl, bel.frame _, fun h => by cases h⟩

theorem over : Rows.rolesAddingARoleRow.holds Try.pinned (OpenSpec.ofChange Rows.rolesAddingARoleSpec) :=
  OpenClaim.holds_of_wide 12 Try.f12 rfl rfl rfl rfl rfl rfl rfl ⟨rfl, rfl, rfl, rfl, rfl⟩ rfl rfl rfl rfl rfl (by kernel_rfl) Try.func12 (by kernel_rfl)
    (of_decide_eq_true (by kernel_rfl)) (by unfold Func.isWrapper; rw [if_neg (by decide +kernel)]; exact ⟨rfl, rfl⟩)
    (fun os started H enc _ => lifted os started H enc)

theorem proved : Rows.RolesAddingARoleSaid := over
#print axioms proved
end Go.Proofs.Ytplcbhcbahiheaa.rolesAddingARole
