/- Contract: the reference's check of a consistency proof. -/
import Derived.Test.YtldepnabkdpokaaTi
namespace Go.Proofs.Ytldepnabkdpokaa
open Go.RowKit

theorem Pl.splitN_le0 : ∀ n : Fin 65, Pl.splitN n.val ≤ 64 := by decide +kernel
theorem Pl.splitN_le {n : Nat} (h : n ≤ 64) : Pl.splitN n ≤ 64 := Pl.splitN_le0 ⟨n, by omega⟩
theorem own_cons {W : World} {B n : Nat} {e : TypeId} {v x : Value} {q : List Int} (hown : W.ownsRow B e 1 v n (intVals q)) (hn : q.length = n) (h0 : (intVals q)[0]? = some x) :
    ∃ g0 off0 cb, v = .slice (some ⟨g0, off0, none⟩) q.length cb ∧ g0 < W.heap.size ∧ Hid (∀ j u, (intVals q)[j]? = some u → W.cell? ⟨g0, off0 + j, none⟩ = some u) ∧ W.cell? ⟨g0, off0, none⟩ = some x := by
  subst hn
  obtain ⟨ob, cb, rfl⟩ := own_slice hown
  have hsq := Sl.own hown
  rcases hsq.mem with h | ⟨g0, off0, rfl, h2, h3⟩
  · rw [h] at h0; simp at h0
  · exact ⟨g0, off0, cb, rfl, h2, h3, h3 0 _ h0⟩
def ExtRel (q : List Int) (old root : Int) (F : Bool) (x y z t u : Value) : Prop :=
  ∃ (f a b k : Nat) (r s : Int), x = .int .i64 (a : Int) ∧ y = .int .i64 (b : Int) ∧ z = .int .i64 r ∧ t = .int .i64 s ∧ u = .int .i64 (k : Int) ∧ k ≤ q.length ∧ a ≤ b ∧ b ≤ 63 ∧ b < 2 ^ f ∧ Pl.isDigestB r = true ∧ Pl.isDigestB s = true ∧ Hid (Pl.extB (Pl.bitsF f a b) r s (q.drop k) old root = F)
def OddRel (sa sb : Nat) (x y : Value) : Prop := ∃ (g a' b' : Nat), x = .int .i64 (a' : Int) ∧ y = .int .i64 (b' : Int) ∧ g ≤ 7 ∧ a' ≤ 63 ∧ b' ≤ 63 ∧ a' < 2 ^ g ∧ Hid (Pl.oddF g a' b' = (sa, sb))

end Go.Proofs.Ytldepnabkdpokaa
