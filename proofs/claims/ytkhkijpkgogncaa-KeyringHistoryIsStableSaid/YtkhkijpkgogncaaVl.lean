/- Appending events; keyrings that grow. -/
import Derived.Test.YtkhkijpkgogncaaVi
import Derived.Test.YtkhkijpkgogncaaVf
namespace Go.Proofs.Ytkhkijpkgogncaa
open Go.RowKit

set_option maxRecDepth 100000 in
theorem Try.tEvents : ElemT Try.prog 50 63 4 32 := ⟨Try.underlying50, ⟨_, _, rfl, rfl, rfl, rfl, rfl⟩, by decide, by decide⟩
theorem quadVals_one (l : List Pl.Ev) : ∀ u ∈ quadVals l, u.oneCell' = true := by
  intro u hu
  obtain ⟨e, _, he⟩ := List.mem_flatMap.1 hu
  simp only [quadCells, List.mem_cons, List.not_mem_nil, or_false] at he
  rcases he with rfl | rfl | rfl | rfl <;> rfl
theorem kValid_n (l : List Pl.Ev) (n : Nat) (hn : l.length = n) (k t : Int) (oa : Option Addr) (cap : Nat) (w : World) (hs : Sl w oa n cap 4 (quadVals l)) (hm : n ≤ 9223372036854775807) (hw : ∀ e ∈ l, (Lit.int .i64 e.key).wf = true) :
    Calls Try.prog 34 #[.slice oa n cap, .int .i64 k, .int .i64 t] w fun e w' => e = .returned (.tuple #[.bool (Pl.validB l k t), .agg #[.int .i64 (Pl.validF l k t).1, .int .i64 (Pl.validF l k t).2]]) ∧ Below w.heap.size w w' := by
  subst hn
  exact kValid_any l k t oa cap w hs hm hw
namespace Pl
theorem valid_bad2 {l : List Ev} {k t : Int} (h : (validF l k t).1 ≠ 0) : validB l k t = false := by
  unfold validB
  simp [h]
theorem validF_ok {l : List Ev} {k t : Int} (h : (validF l k t).1 = 0) : validF l k t = (0, 0) ∧ krF l = (0, 0) ∧ l.length ≤ 40 ∧ Valid l ∧ isKeyB k = true ∧ isTimeB t = true := by
  unfold validF at *
  rcases krF_cases l with ⟨h1, h2, h3⟩ | h1
  · rw [h1] at h ⊢
    rw [if_pos rfl] at h ⊢
    by_cases h4 : (isKeyB k && isTimeB t) = true
    · rw [if_pos h4]
      simp only [Bool.and_eq_true] at h4
      exact ⟨rfl, rfl, h2, h3, h4⟩
    · rw [if_neg h4] at h; cases h
  · rw [if_neg h1] at h; exact absurd h h1
theorem keyTime_append {l m : List Ev} {k kd : Int} (h : 0 ≤ keyTime l k kd) : keyTime (l ++ m) k kd = keyTime l k kd := by
  unfold keyTime at *
  rw [List.find?_append]
  cases hf : l.find? (isEv k kd) with
  | some x => rfl
  | none => rw [hf] at h; simp at h
theorem revoked_stays {l m : List Ev} {k t : Int} (h : 0 ≤ keyTime l k 2) (ht : ¬ t < keyTime l k 2) : validB (l ++ m) k t = false := by
  unfold validB kvB
  rw [keyTime_append h, decide_eq_false (by omega : ¬ keyTime l k 2 < 0), decide_eq_false ht]
  simp
theorem stable {l : List Ev} {e : Ev} {k t : Int} (hv : Valid (l ++ [e])) (ht : t < e.time) : kvB (l ++ [e]) k t = kvB l k t := by
  obtain ⟨h1, h2⟩ := Valid.snoc.1 hv
  have hg := evC_good.1 h2
  unfold kvB
  rw [h1.keyTime, h1.keyTime]
  by_cases a : 0 ≤ keyTime l k 1
  · rw [if_pos a]
    by_cases b : 0 ≤ keyTime l k 2
    · rw [if_pos b]
    · rw [if_neg b]
      by_cases c : e.kind = 2 ∧ e.key = k
      · rw [if_pos c, decide_eq_true ht, decide_eq_true (by omega : keyTime l k 2 < 0), Bool.or_true, Bool.true_or]
      · rw [if_neg c, decide_eq_true (by omega : keyTime l k 2 < 0)]
        rfl
  · rw [if_neg a]
    have hb : ¬ 0 ≤ keyTime l k 2 := fun h => a (h1.revoked k h)
    by_cases c : e.kind = 1 ∧ e.key = k
    · rw [if_pos c, decide_eq_false (by omega : ¬ e.time ≤ t), decide_eq_false a]
      simp
    · rw [if_neg c, decide_eq_false a]
      rfl
end Pl
end Go.Proofs.Ytkhkijpkgogncaa
