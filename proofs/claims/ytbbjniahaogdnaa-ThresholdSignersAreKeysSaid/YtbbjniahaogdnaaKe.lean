/- Regions that draw their order and in which several operations make memory: a plan of walks, one for each way the makers may be picked. No program in sight. -/
import Derived.Test.YtbbjniahaogdnaaKc
namespace Go.Proofs.Ytbbjniahaogdnaa
open Go.RowKit

/-- A plan: 'one i p' goes on with the operation i; 'any' gives a walk for each operation that may come up. -/
inductive Plan where
  | fin
  | one (i : Nat) (p : Plan)
  | alt (i : Nat) (p rest : Plan)
  | no
  | any (p : Plan)

namespace Plan
def pre : List Nat → Plan → Plan
  | [], p => p
  | i :: l, p => .one i (pre l p)
def ord (l : List Nat) : Plan := pre l .fin
def top : Plan → Bool
  | .fin | .one .. | .any _ => true
  | _ => false
def heads : Plan → List Nat
  | .alt i _ rest => i :: heads rest
  | _ => []
end Plan

section theory
variable {P : Program} {ops : Array Oper} {md : Region.Mode}

def planFrom (md : Region.Mode) (ops : Array Oper) : Plan → Nat → Array Bool → Bool
  | .fin, n, listed => n == 0 && (Region.ready md ops listed).isEmpty
  | .one i p, n, listed => n != 0 && p.top && (Region.ready md ops listed).contains i && ((rdAt ops i && Region.free md ops listed i && noSt md ops listed i) || Region.ready md ops listed == [i]) && planFrom md ops p (n - 1) (listed.setIfInBounds i true)
  | .alt i p rest, n, listed => n != 0 && p.top && planFrom md ops p (n - 1) (listed.setIfInBounds i true) && planFrom md ops rest n listed
  | .no, n, _ => n != 0
  | .any p, n, listed => n != 0 && !(Region.ready md ops listed).isEmpty && ((Region.ready md ops listed).all fun j => p.heads.contains j) && planFrom md ops p n listed
def planB (ops : Array Oper) (p : Plan) : Bool := Region.noSelect ops && p.top && planFrom .any ops p ops.size (Array.replicate ops.size false)

/-- The plan's walks. -/
def wpP (P : Program) (ops : Array Oper) (Q : Act → World → Prop) : Plan → Act → World → Prop
  | .fin, a, w => Q a w
  | .one i p, a, w => eOp P ops i (wpP P ops Q p) a w
  | .alt i p rest, a, w => eOp P ops i (wpP P ops Q p) a w ∧ wpP P ops Q rest a w
  | .no, _, _ => True
  | .any p, a, w => wpP P ops Q p a w

theorem wpAnyE_plan {Q : Act → World → Prop} (hs : Region.noSelect ops = true) : ∀ (p : Plan) (n : Nat) (listed : Array Bool) (a : Act) (w : World),
    Closed md ops listed → planFrom md ops p n listed = true → wpP P ops Q p a w →
    (p.top = true → wpAnyE P md ops Q n listed a w) ∧ (∀ j ∈ Region.ready md ops listed, j ∈ p.heads → eOp P ops j (wpAnyE P md ops Q (n - 1) (listed.setIfInBounds j true)) a w) := by
  intro p
  induction p with
  | fin =>
    intro n listed a w hcl hB h
    simp only [planFrom, Bool.and_eq_true, beq_iff_eq, List.isEmpty_iff] at hB
    obtain ⟨rfl, hB⟩ := hB
    exact ⟨fun _ => ⟨hB, h⟩, by simp [Plan.heads]⟩
  | no =>
    intro n listed a w hcl hB h
    exact ⟨by simp [Plan.top], by simp [Plan.heads]⟩
  | any p ih =>
    intro n listed a w hcl hB h
    simp only [planFrom, Bool.and_eq_true, bne_iff_ne, ne_eq, Bool.not_eq_true', List.isEmpty_eq_false_iff, List.all_eq_true, List.contains_iff_mem] at hB
    obtain ⟨⟨⟨hn, hne⟩, hc⟩, hB⟩ := hB
    refine ⟨fun _ => ?_, by simp [Plan.heads]⟩
    obtain ⟨m, rfl⟩ := Nat.exists_eq_succ_of_ne_zero hn
    have h2 := (ih _ _ a w hcl hB h).2
    refine ⟨fun h0 => absurd h0 hne, fun j hj => ?_⟩
    exact h2 j hj (hc j hj)
  | alt i p rest ihp ihr =>
    intro n listed a w hcl hB h
    simp only [planFrom, Bool.and_eq_true, bne_iff_ne, ne_eq] at hB
    obtain ⟨⟨⟨hn, ht⟩, hB⟩, hB2⟩ := hB
    refine ⟨by simp [Plan.top], ?_⟩
    intro j hjr hj
    simp only [Plan.heads, List.mem_cons] at hj
    rcases hj with rfl | hj
    · exact eOp_mono (fun a' w' h' => (ihp _ _ a' w' (hcl.set hjr) hB h').1 ht) h.1
    · exact (ihr _ _ a w hcl hB2 h.2).2 j hjr hj
  | one i p ih =>
    intro n listed a w hcl hB h
    simp only [planFrom, Bool.and_eq_true, Bool.or_eq_true, beq_iff_eq, bne_iff_ne, ne_eq] at hB
    obtain ⟨⟨⟨⟨hn, ht⟩, hr⟩, hf⟩, hB'⟩ := hB
    obtain ⟨m, rfl⟩ := Nat.exists_eq_succ_of_ne_zero hn
    refine ⟨fun _ => ?_, by simp [Plan.heads]⟩
    have h : eOp P ops i (wpP P ops Q p) a w := h
    have ih := fun a' w' h' => (ih m (listed.setIfInBounds i true) a' w' (hcl.set (by simpa using hr)) hB' h').1 ht
    rcases hf with ⟨⟨hd, hf⟩, hns⟩ | hf
    · unfold rdAt at hd
      cases ho : ops[i]? with
      | none => simp [ho] at hd
      | some o =>
        simp only [ho] at hd
        have h' := h
        unfold eOp at h'
        simp only [ho] at h'
        by_cases hw : Region.wanted o (yielded ops a.tmps) = true
        · simp only [hw, if_true] at h'
          rcases h' with ⟨h1, _⟩ | ⟨h1, v, h2, h3⟩ | ⟨h1, _⟩
          · rw [isSt_rd hd] at h1; cases h1
          · exact wpAnyE_first ho (Region.noSelect_spec hs) m listed a w hcl (noSt_spec hns) (Region.free_spec ho hf) (by simpa using hr) (.inl ⟨hw, hd, h2⟩) (ih _ _ h3)
          · rw [h1] at hd; cases hd
        · simp only [hw] at h'
          exact wpAnyE_first ho (Region.noSelect_spec hs) m listed a w hcl (noSt_spec hns) (Region.free_spec ho hf) (by simpa using hr) (.inr ⟨by simpa using hw, rfl⟩) (ih _ _ h')
    · refine ⟨fun h0 => ?_, fun j hj => ?_⟩
      · rw [hf] at h0; cases h0
      · rw [hf] at hj
        obtain rfl : j = i := by simpa using hj
        exact eOp_mono ih h

/-- **The plan's walks serve every order.** -/
theorem wp_region_plan {id : Nat} {Q : Exit → Act → World → Prop} {a : Act} {w : World} {l : List Oper} (p : Plan) (hm : P.follows .mixedOrders = true) (hB : planB l.toArray p = true)
    (h : wpP P l.toArray (fun a' w' => Q .normal a' w') p a w.drew) : (Code.region id l.toArray true).wp P Q a w := by
  simp only [planB, Bool.and_eq_true] at hB
  obtain ⟨⟨h1, h2⟩, h3⟩ := hB
  have h4 := (wpAnyE_plan h1 p _ _ a _ Closed.start h3 h).1 h2
  exact wp_region_any hm (wpAny_of_E (Q := fun a' w' => Q .normal a' w') (fun _ _ h => h) _ _ _ _ h4)

theorem wpP_pre {Q : Act → World → Prop} : ∀ {l : List Nat} {p : Plan} {a : Act} {w : World}, wpI P ops (wpP P ops Q p) l a w → wpP P ops Q (.pre l p) a w
  | [], _, _, _, h => by rw [wpI_nil_eq] at h; exact h
  | i :: l, p, a, w, h => by
    show eOp P ops i _ a w
    rw [wpI_cons_eq] at h
    exact eOp_mono (fun _ _ h' => wpP_pre h') h
theorem wpP_ord {Q : Act → World → Prop} {l : List Nat} {a : Act} {w : World} (h : wpI P ops Q l a w) : wpP P ops Q (.ord l) a w := wpP_pre (p := .fin) h
theorem wpP_any {Q : Act → World → Prop} {p : Plan} {a : Act} {w : World} (h : wpP P ops Q p a w) : wpP P ops Q (.any p) a w := h
theorem wpP_no {Q : Act → World → Prop} {a : Act} {w : World} : wpP P ops Q .no a w := trivial
theorem wpP_alt {Q : Act → World → Prop} {i : Nat} {p rest : Plan} {a : Act} {w : World} (h : wpI P ops (wpP P ops Q p) [i] a w) (h2 : wpP P ops Q rest a w) : wpP P ops Q (.alt i p rest) a w := ⟨by rw [wpI_cons_eq, wpI_nil_eq] at h; exact h, h2⟩

/-- An operation that makes memory. -/
theorem wpI_add {Q : Act → World → Prop} {a : Act} {w : World} {l : List Oper} {i : Nat} {rest : List Nat} {o : Oper} (hi : l[i]? = some o) (hr : isRd o.op = false) (hw : Region.wanted o (yielded l.toArray a.tmps) = true)
    {u : Value} {w' : World} (hx : (execOp a.eval o).run P w = .ok (.value u) w') (hb : Ext w w')
    (h : wpI P l.toArray Q rest (a.put o.dst u) w') : wpI P l.toArray Q (i :: rest) a w := by
  rw [wpI_cons_eq]
  have hi' : l.toArray[i]? = some o := by simpa using hi
  unfold eOp
  simp only [hi', hw, if_true]
  refine .inr (.inr ⟨hr, ?_⟩)
  rw [hx]
  exact ⟨hb, h⟩

/-- A store. -/
theorem wpI_st {Q : Act → World → Prop} {a : Act} {w : World} {l : List Oper} {i : Nat} {rest : List Nat} {o : Oper} (hi : l[i]? = some o) (hr : isSt o.op = true) (hw : Region.wanted o (yielded l.toArray a.tmps) = true)
    {w' : World} (hx : (execOp a.eval o).run P w = .ok .skip w')
    (h : wpI P l.toArray Q rest (a.put o.dst undef) w') : wpI P l.toArray Q (i :: rest) a w := by
  rw [wpI_cons_eq]
  have hi' : l.toArray[i]? = some o := by simpa using hi
  unfold eOp
  simp only [hi', hw, if_true]
  refine .inl ⟨hr, ?_⟩
  rw [hx]
  exact h

attribute [irreducible] wpP
end theory
end Go.Proofs.Ytbbjniahaogdnaa
