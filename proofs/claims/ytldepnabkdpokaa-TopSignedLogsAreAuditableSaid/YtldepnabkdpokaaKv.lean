/- Own rows lie above a base; slices across stores elsewhere. No program in sight. -/
import Derived.Test.YtldepnabkdpokaaKj
namespace Go.Proofs.Ytldepnabkdpokaa
open Go.RowKit

theorem own_ge {w : World} {base : Nat} {e : TypeId} {size n cap : Nat} {oa : Option Addr} {xs : List Value} (h : w.ownsRow base e size (.slice oa n cap) n xs) : ∀ b off, oa = some ⟨b, off, none⟩ → base ≤ b := by
  intro b off hb
  subst hb
  rcases h.2 with ⟨a1, a2⟩ | ⟨g, c, cur, a1, hbg, _⟩
  · first | cases a1 | cases a2
  · cases a1
    exact hbg
theorem Sl.set2 {w : World} {oa : Option Addr} {n cap sz : Nat} {cs : List Value} (h : Sl w oa n cap sz cs) {r : Nat} (hne : ∀ b off, oa = some ⟨b, off, none⟩ → r ≠ b) (x y : Value) : Sl ((w.setCell ⟨r, 0, none⟩ x).setCell ⟨r, 1, none⟩ y) oa n cap sz cs := by
  refine ⟨h.hl, h.hcap, h.hmax, ?_⟩
  rcases h.mem with h0 | ⟨b, off, rfl, hlt, hc⟩
  · exact .inl h0
  · have hb := hne b off rfl
    exact .inr ⟨b, off, rfl, by simpa using hlt, fun j u hu => by
      rw [World.cell?_setCell_other _ _ _ _ (by simp), World.cell?_setCell_other _ _ _ _ (by simp)]
      exact hc j u hu⟩

end Go.Proofs.Ytldepnabkdpokaa
