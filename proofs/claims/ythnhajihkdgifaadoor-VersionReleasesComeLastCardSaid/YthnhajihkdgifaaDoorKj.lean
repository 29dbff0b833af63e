/- What functions return that make a list of integers, alone or with a fault. No program in sight. -/
import Derived.Test.YthnhajihkdgifaaDoorKf
namespace Go.Proofs.YthnhajihkdgifaaDoor
open Go.RowKit

/-- A row of the call's own. -/
def RInts (t : TypeId) (xs : List Int) (w : World) (e : Ending) (w' : World) : Prop :=
  ∃ o c, e = .returned (.slice o xs.length c) ∧ w'.ownsRow w.heap.size t 1 (.slice o xs.length c) xs.length (intVals xs) ∧ Below w.heap.size w w'
/-- A row of the call's own, and a fault. -/
def RIntsF (t : TypeId) (xs : List Int) (F : Int × Int) (w : World) (e : Ending) (w' : World) : Prop :=
  ∃ o c, e = .returned (.tuple #[.slice o xs.length c, .agg #[.int .i64 F.1, .int .i64 F.2]]) ∧ w'.ownsRow w.heap.size t 1 (.slice o xs.length c) xs.length (intVals xs) ∧ Below w.heap.size w w'
theorem RIntsF.bad {t : TypeId} {xs : List Int} {F G : Int × Int} {w w' : World} (hG : F = G) (hx : xs = []) (hb : Below w.heap.size w w') : RIntsF t xs F w (.returned (.tuple #[.slice none 0 0, .agg #[.int .i64 G.1, .int .i64 G.2]])) w' := by
  subst hG; subst hx
  exact ⟨none, 0, rfl, World.ownsRow_nil _ _ _ _, hb⟩
theorem own_base0 {w : World} {B B' : Nat} {e : TypeId} {size n : Nat} {v : Value} {xs : List Value} (h : w.ownsRow B e size v n xs) (hB : B' ≤ B) : w.ownsRow B' e size v n xs := by
  refine ⟨h.1, ?_⟩
  rcases h.2 with h0 | ⟨g, c, cur, h1, h2, h3⟩
  · exact .inl h0
  · exact .inr ⟨g, c, cur, h1, by omega, h3⟩
theorem RIntsF.ok {t : TypeId} {xs : List Int} {F : Int × Int} {w w' : World} {v : Value} {n : Nat} (hF : F = (0, 0)) {B : Nat} (hn : n = xs.length) (hown : w'.ownsRow B t 1 v n (intVals xs)) (hB : w.heap.size ≤ B) (hb : Below w.heap.size w w') : RIntsF t xs F w (.returned (.tuple #[v, .agg #[.int .i64 0, .int .i64 0]])) w' := by
  subst hF; subst hn
  obtain ⟨oa, cap, rfl⟩ := own_slice hown
  exact ⟨oa, cap, rfl, own_base0 hown hB, hb⟩
theorem RInts.ok {t : TypeId} {xs : List Int} {w w' : World} {v : Value} {n : Nat} {B : Nat} (hn : n = xs.length) (hown : w'.ownsRow B t 1 v n (intVals xs)) (hB : w.heap.size ≤ B) (hb : Below w.heap.size w w') : RInts t xs w (.returned v) w' := by
  subst hn
  obtain ⟨oa, cap, rfl⟩ := own_slice hown
  exact ⟨oa, cap, rfl, own_base0 hown hB, hb⟩
/-- A literal is a row of one's own. -/
theorem own_lit {w : World} {B g n size : Nat} {e : TypeId} {C : List Value} (hg : g = w.heap.size) (hB : B ≤ g) (hl : C.length = n * size) (hm : n ≤ maxLen) : (w.alloc (.cells C.toArray e)).ownsRow B e size (.slice (some ⟨g, 0, none⟩) n n) n C := by
  subst hg
  refine ⟨hl, .inr ⟨w.heap.size, n, C.toArray, rfl, hB, heap_alloc_new _ _, Nat.le_refl _, hm, by simpa using hl, ?_⟩⟩
  simp only
  rw [← hl, List.take_length]
end Go.Proofs.YthnhajihkdgifaaDoor
