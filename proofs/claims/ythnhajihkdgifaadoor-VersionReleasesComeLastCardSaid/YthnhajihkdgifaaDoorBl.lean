/- What the library's variables hold; numerals. -/
import Derived.Test.YthnhajihkdgifaaDoorBk
import Derived.Lib.AppendIntMem
namespace Go.Proofs.YthnhajihkdgifaaDoor
open Go.RowKit

/-- The library's variables hold what their initialisers lay. -/
structure Env (w : World) : Prop where
  len : ∃ m, w.cell? ⟨0, 0, none⟩ = some (.int .i64 m)
  tab : Lib.TabIs Tryd.prog w "internal/strconv.uint64pow10" .u64 Lib.pow10Tab
  syn : ∃ te pe, w.cell? ⟨1, 0, none⟩ = some (.iface te pe)
  rng : ∃ te pe, w.cell? ⟨2, 0, none⟩ = some (.iface te pe)
theorem Env.below {w w' : World} (h : Env w) {B : Nat} (hb : Below B w w') (hB : w.heap.size ≤ B) : Env w' := by
  obtain ⟨⟨m, h1⟩, h2, ⟨t1, p1, h3⟩, ⟨t2, p2, h4⟩⟩ := h
  have cell : ∀ {a : Addr} {u : Value}, w.cell? a = some u → w'.cell? a = some u := fun {a u} hc => (hb.cell (p := a) (Nat.lt_of_lt_of_le (World.block_lt_of_cell? w _ hc) hB)).trans hc
  exact ⟨⟨m, cell h1⟩, Lib.tabBelow_of_tabIs h2 w' (hb.mono hB), ⟨t1, p1, cell h3⟩, ⟨t2, p2, cell h4⟩⟩

theorem Itoa_any (n : Int) (w : World) (h0 : 0 ≤ n) (h1 : n ≤ 9223372036854775807) (E : Env w) :
    Calls Tryd.prog 34 #[.int .i64 n] w fun e w' => e = .returned (.string ⟨(Pl.digS n).toArray⟩) ∧ Below w.heap.size w w' := by
  refine (Tryd.strconv_Itoa n (by omega) h1 w E.tab).mono ?_
  rintro e w' ⟨rfl, k, os, rfl⟩
  refine ⟨?_, Lib.below_grow _ _ (Nat.le_refl _) _ _⟩
  unfold Lib.itoa Pl.digS
  rw [if_neg (by omega)]
end Go.Proofs.YthnhajihkdgifaaDoor
