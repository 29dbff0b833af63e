/- Contract: two signatures in new memory. -/
import Derived.Test.YtplcbhcbahiheaaXf
import Derived.Test.YtplcbhcbahiheaaKg
import Derived.Lib.SlBytesConst
namespace Go.Proofs.Ytplcbhcbahiheaa
open Go.RowKit

/-- A slice over a new block that carries the mark of a literal's row. -/
theorem Sl.freshM {w : World} {C : List Value} {t : TypeId} {fr : Nat × Nat} {k n cap sz : Nat} (hk : k = w.heap.size) (hl : C.length = n * sz) (hcap : n ≤ cap) (hm : cap ≤ maxLen) : Sl (w.alloc (.cells C.toArray t fr)) (some ⟨k, 0, none⟩) n cap sz C := by
  subst hk
  exact ⟨hl, hcap, hm, .inr ⟨w.heap.size, 0, rfl, by simp, fun j u hu => by
    simp only [World.cell?, World.alloc, Array.getElem?_push_size, Nat.zero_add]
    simpa using hu⟩⟩

theorem Try.tSigs : ElemT Try.prog 46 79 2 16 := ⟨Try.underlying46, ⟨_, _, rfl, rfl, rfl, rfl, rfl⟩, by decide, by decide⟩
theorem oneCell_pairs (l : List (Int × Int)) : ∀ u ∈ pairVals l, u.oneCell' = true := by
  intro u hu
  simp only [pairVals, List.mem_flatMap, List.mem_cons, List.not_mem_nil, or_false] at hu
  obtain ⟨s, _, rfl | rfl⟩ := hu <;> rfl
theorem pairVals_append (a b : List (Int × Int)) : pairVals (a ++ b) = pairVals a ++ pairVals b := by simp [pairVals]

namespace Pl
def twoL (l : List UInt8) : List (Int × Int) := [(5, signS 5 l), (7, signS 7 l)]
end Pl

theorem two_any (l : List UInt8) (oa : Option Addr) (cap : Nat) (w : World) (hs : Sl w oa l.length cap 1 (byteVals l)) (hn : l.length ≤ 4096) :
    Calls Try.prog 59 #[.slice oa l.length cap] w fun e w' => ∃ o c, e = .returned (.slice o 2 c) ∧ Sl w' o 2 c 2 (pairVals (Pl.twoL l)) ∧ Below w.heap.size w w' := by
  go_enter Try.func59, Try.ntmps59
  go_wp2_with fail
  refine (Sign_ok 5 l oa cap _ hs (by decide) hn).mono ?_
  rintro e w1 ⟨rfl, hb1⟩
  have s1 := hb1.size
  have B1 := hb1.alloc s1 (.cells #[.int .i64 0, .int .i64 0] 24)
  have q1 := B1.size
  go_wp2_with fail
  refine (Sign_ok 7 l oa cap _ (hs.below B1 (Nat.le_refl _)) (by decide) hn).mono ?_
  rintro e w2 ⟨rfl, hb2⟩
  have B2 := bcall B1 hb2 q1
  have q2 := B2.size
  go_wp2_with fail
  go_ret
  exact ⟨_, _, rfl, Sl.fresh (C := pairVals (Pl.twoL l)) (by simp) rfl (by decide) (by decide), by go_grown⟩

end Go.Proofs.Ytplcbhcbahiheaa
