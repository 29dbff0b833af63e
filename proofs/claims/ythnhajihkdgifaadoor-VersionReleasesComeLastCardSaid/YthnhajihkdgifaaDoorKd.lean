/- From what a row's reading gives of its arguments to the words of the walks. -/
import Derived.Test.YthnhajihkdgifaaDoorKb
import Derived.ProofKit
namespace Go.Proofs.YthnhajihkdgifaaDoor
open Go.RowKit

theorem spot_none {w : World} {a : Addr} {v : Value} (h : w.cell? a = some v) : a = ⟨a.block, a.off, none⟩ := by
  obtain ⟨b, o, s⟩ := a
  cases s with
  | none => rfl
  | some k =>
    unfold World.cell? at h
    split at h
    · simp at h
    · cases h

/-- What a row says of a slice of integers that came in. -/
def Came (k : IntKind) (w : World) (a : Option Addr) (len cap : Nat) (zs : List Int) : Prop :=
  (a = none ∧ len = 0 ∧ cap = 0 ∧ zs = []) ∨
  ∃ x, a = some x ∧ len ≤ cap ∧ cap ≤ maxLen ∧ zs.length = cap ∧ (∀ i, i < zs.length → w.cell? (x.add i) = some (.int k (zs.getD i 0))) ∧ ∀ n ∈ zs, (Lit.int k n).wf = true

theorem Came.sl {k : IntKind} {w : World} {a : Option Addr} {len cap : Nat} {zs : List Int} (h : Came k w a len cap zs) : Sl w a len cap 1 ((zs.take len).map (Value.int k)) ∧ (zs.take len).length = len := by
  rcases h with ⟨rfl, rfl, rfl, rfl⟩ | ⟨x, rfl, h1, h2, h3, h4, _⟩
  · exact ⟨Sl.nil _ _, rfl⟩
  · have hl : (zs.take len).length = len := by rw [List.length_take]; omega
    refine ⟨⟨by rw [List.length_map, hl, Nat.mul_one], h1, h2, ?_⟩, hl⟩
    cases hn : len with
    | zero => exact .inl (by simp)
    | succ n =>
      have h0 := h4 0 (by omega)
      have hx : x.add 0 = x := by simp [Addr.add]
      rw [hx] at h0
      refine .inr ⟨x.block, x.off, by rw [← spot_none h0], World.block_lt_of_cell? w _ h0, fun j u hu => ?_⟩
      rw [List.getElem?_map, List.getElem?_take] at hu
      split at hu
      · rename_i hj
        have h5 := h4 j (by omega)
        rw [spot_none h0, addr_add] at h5
        rw [h5]
        have hj' : j < zs.length := by omega
        simp [hj'] at hu
        rw [← hu]
        simp [hj']
      · simp at hu

theorem Came.ints {w : World} {a : Option Addr} {len cap : Nat} {zs : List Int} (h : Came .i64 w a len cap zs) : ∃ xs : List Int, xs.length = len ∧ Sl w a len cap 1 (intVals xs) ∧ xs.length ≤ 9223372036854775807 := by
  refine ⟨zs.take len, h.sl.2, h.sl.1, ?_⟩
  have h1 := h.sl.1.hcap
  have h2 := h.sl.1.hmax
  rw [h.sl.2]
  simp only [maxLen] at h2
  omega

theorem u8_of {n : Int} (h : (Lit.int .u8 n).wf = true) : ((UInt8.ofNat n.toNat).toNat : Int) = n := by
  have hb := bounds_u8 h
  rw [UInt8.toNat_ofNat']
  omega

theorem Came.bytes {w : World} {a : Option Addr} {len cap : Nat} {zs : List Int} (h : Came .u8 w a len cap zs) : ∃ xs : List UInt8, xs.length = len ∧ Sl w a len cap 1 (byteVals xs) ∧ xs.length ≤ 9223372036854775807 := by
  have hwf : ∀ n ∈ zs, (Lit.int .u8 n).wf = true := by
    rcases h with ⟨_, _, _, rfl⟩ | ⟨x, _, _, _, _, _, h6⟩
    · intro n hn; cases hn
    · exact h6
  refine ⟨(zs.take len).map (fun n => UInt8.ofNat n.toNat), by rw [List.length_map]; exact h.sl.2, ?_, ?_⟩
  · have e : byteVals ((zs.take len).map (fun n => UInt8.ofNat n.toNat)) = (zs.take len).map (Value.int .u8) := by
      unfold byteVals
      rw [List.map_map]
      refine List.map_congr_left fun n hn => ?_
      simp only [Function.comp]
      rw [u8_of (hwf n (List.mem_of_mem_take hn))]
    rw [e]
    exact h.sl.1
  · have h1 := h.sl.1.hcap
    have h2 := h.sl.1.hmax
    rw [List.length_map, h.sl.2]
    simp only [maxLen] at h2
    omega
end Go.Proofs.YthnhajihkdgifaaDoor
