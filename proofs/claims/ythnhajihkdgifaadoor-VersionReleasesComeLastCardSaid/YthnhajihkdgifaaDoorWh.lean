/- Words that all laws use: signatures are digests, boxes behind calls. -/
import Derived.Test.YthnhajihkdgifaaDoorWg
namespace Go.Proofs.YthnhajihkdgifaaDoor
open Go.RowKit

theorem Pl.signS_range (k : Int) (l : List UInt8) : 0 ≤ Pl.signS k l ∧ Pl.signS k l ≤ 2305843009213693950 := by
  have h := Pl.pairS_range k (Pl.ofS l)
  have h2 : Pl.pairS k (Pl.ofS l) < 2305843009213693951 := h.2
  exact ⟨h.1, by unfold Pl.signS; omega⟩
theorem Pl.signS_digest (k : Int) (l : List UInt8) : Pl.isDigestB (Pl.signS k l) = true := Pl.isDigestB_true.2 (Pl.signS_range k l)

theorem Pl.signF_ok {k : Int} {n : Nat} (h : (Pl.signF k n).1 = 0) : Pl.isKeyB k = true ∧ n ≤ 4096 := by
  unfold Pl.signF at h
  split at h
  · split at h
    · exact ⟨‹_›, ‹_›⟩
    · cases h
  · cases h
namespace Pl
theorem inj1 (d q m : Int) (hm : m = 2305843009213693951) (h1 : -1000003000000000 ≤ d) (h2 : d ≤ 1000003000000000) (h : d = m * q) : d = 0 := by
  subst hm
  by_cases h3 : q ≤ -1
  · omega
  · by_cases h4 : 1 ≤ q
    · omega
    · have : q = 0 := by omega
      subst this
      omega
theorem inj0 (a b c m : Int) (hm : m = 2305843009213693951) (ha : 1 ≤ a) (ha' : a ≤ 1000000000) (hb : 1 ≤ b) (hb' : b ≤ 1000000000) (h : (a * 1000003 + c) % m = (b * 1000003 + c) % m) : a = b := by
  have h2 := Int.emod_eq_emod_iff_emod_sub_eq_zero.1 h
  have h3 : a * 1000003 + c - (b * 1000003 + c) = (a - b) * 1000003 := by omega
  rw [h3] at h2
  obtain ⟨q, hq⟩ := Int.dvd_of_emod_eq_zero h2
  have := inj1 ((a - b) * 1000003) q m hm (by omega) (by omega) hq
  omega
theorem signS_inj {a b : Int} {l : List UInt8} (ha : isKeyB a = true) (hb : isKeyB b = true) (h : signS a l = signS b l) : a = b := by
  have ra := isKeyB_true.1 ha
  have rb := isKeyB_true.1 hb
  refine inj0 a b (ofS l * 31 + 7) M rfl (by omega) (by omega) (by omega) (by omega) ?_
  rw [← Int.add_assoc, ← Int.add_assoc]
  exact h
end Pl
/-- The first field of a fault that lies in no variable. -/
@[go_sem] theorem Tryd.fld0 (x y : Int) (w : World) : (Instr.field 27 (.agg #[.int .i64 x, .int .i64 y]) 0).run Tryd.prog w = .ok (.int .i64 x) w := by kernel_rfl

/-- A box that stood before a call stands behind it. -/
theorem boxAt {W w' : World} {B r : Nat} {x y : Value} (hb : Below B W w') (hr : r < B) (c0 : W.cell? ⟨r, 0, none⟩ = some x) (c1 : W.cell? ⟨r, 1, none⟩ = some y) (f0 : W.frozen? ⟨r, 0, none⟩ = false) (f1 : W.frozen? ⟨r, 1, none⟩ = false) : Box2 w' r x y :=
  ⟨(hb.cell (p := ⟨r, 0, none⟩) hr).trans c0, (hb.cell (p := ⟨r, 1, none⟩) hr).trans c1, (hb.frozen (p := ⟨r, 0, none⟩) hr).trans f0, (hb.frozen (p := ⟨r, 1, none⟩) hr).trans f1, by
    have h := World.block_lt_of_cell? W _ c0
    exact Nat.lt_of_lt_of_le h hb.size⟩
theorem ret_true {b : Bool} (h : b = true) : Ending.returned (.bool b) = .returned (.bool true) := by rw [h]

end Go.Proofs.YthnhajihkdgifaaDoor
