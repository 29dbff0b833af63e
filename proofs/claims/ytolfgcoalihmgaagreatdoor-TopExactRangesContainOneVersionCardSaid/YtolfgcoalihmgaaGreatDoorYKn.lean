/- A region that draws its order and whose stores hit a few known blocks: what reads elsewhere may come up before or behind them. No program in sight. -/
import Derived.Test.YtolfgcoalihmgaaGreatDoorZMKb
import Derived.Test.YtolfgcoalihmgaaGreatDoorZMKd
import Derived.Test.YtolfgcoalihmgaaGreatDoorZMKe
import Derived.Test.YtolfgcoalihmgaaGreatDoorZMPo
import Derived.Test.YtolfgcoalihmgaaGreatDoorYKe
import Derived.Lib.ConvBytes
namespace Go.Proofs.YtolfgcoalihmgaaGreatDoor
open Go.RowKit
section theory
variable {P : Program} {ops : Array Oper} {md : Region.Mode} {D : List (Nat × Nat)}
/-- []byte(s). -/
theorem run_s2b {src dst e : TypeId} (hs : P.underlying src = some .string) (hd : P.underlying dst = some (.slice e)) (he : P.underlying e = some (.int .u8)) (w : World) (s : ByteArray) (hm : s.size ≤ maxLen) :
 ∃ cap w', (convert src dst (.string s)).run P w = .ok (.slice (some ⟨w.heap.size, 0, none⟩) s.size cap) w' ∧ Below w.heap.size w w' ∧ w'.heap.size = w.heap.size + 1 ∧ Sl w' (some ⟨w.heap.size, 0, none⟩) s.size cap 1 (byteVals s.data.toList) := by
 refine ⟨_, _, Lib.run_convert_string_bytes w src dst e s hs hd he, ⟨rfl, rfl, rfl, by rw [Lib.bytesWorld_size]; omega, fun k hk => Lib.bytesWorld_at_old w e s k hk⟩, Lib.bytesWorld_size w e s, ?_⟩
 refine ⟨by rw [byteVals_length, Nat.mul_one]; rfl, grownCap_ge w s.size 0 e, grownCap_le_maxLen w s.size 0 e hm, .inr ⟨w.heap.size, 0, rfl, by rw [Lib.bytesWorld_size]; omega, fun j u hu => ?_⟩⟩
 have hj : j < s.data.toList.length := by
  have := (List.getElem?_eq_some_iff.1 hu).1
  rwa [byteVals_length] at this
 rw [byteVals_get _ j hj] at hu
 rw [Nat.zero_add, Lib.bytesWorld_cell w e s j hj, ← hu, List.getD_eq_getElem?_getD, List.getElem?_eq_getElem hj]
 rfl
end theory
end Go.Proofs.YtolfgcoalihmgaaGreatDoor
