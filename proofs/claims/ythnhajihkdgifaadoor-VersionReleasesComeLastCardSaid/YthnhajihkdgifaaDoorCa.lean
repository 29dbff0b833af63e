/- The closed example of the laws of versions: what its calls answer. -/
import Derived.Test.YthnhajihkdgifaaDoorBo
import Derived.Test.YthnhajihkdgifaaDoorBq
import Derived.Test.YthnhajihkdgifaaDoorBv
namespace Go.Proofs.YthnhajihkdgifaaDoor
open Go.RowKit
theorem VIn.at1 {W : World} {g : Nat} {a b d : Int} {s : ByteArray} (hg : g < W.heap.size) (hc : W.cell? ⟨g, 0, none⟩ = some (.string s)) (hs : s.size ≤ 9223372036854775807) : VIn W ⟨a, b, d, [s]⟩ (some ⟨g, 0, none⟩) 1 := by
  refine ⟨⟨by simp [strVals], Nat.le_refl _, by simp [maxLen], .inr ⟨g, 0, rfl, hg, fun j u hu => ?_⟩⟩, fun x hx => by rw [List.mem_singleton.1 hx]; exact hs⟩
  cases j with
  | zero =>
    simp [strVals] at hu
    rw [← hu]; simpa using hc
  | succ j => simp [strVals] at hu
theorem orC1 (W : World) (a b : Option Addr) (hx : VIn W ⟨1, 0, 0, [(⟨#[57]⟩ : ByteArray)]⟩ a 1) (hy : VIn W ⟨1, 0, 0, [(⟨#[49, 48]⟩ : ByteArray)]⟩ b 1) :
    Calls Tryd.prog 13 #[.agg #[.int .i64 1, .int .i64 0, .int .i64 0, .slice a 1 1], .agg #[.int .i64 1, .int .i64 0, .int .i64 0, .slice b 1 1]] W fun e w' => e = .returned (.tuple #[.int .i64 (-1), .agg #[.int .i64 0, .int .i64 0]]) ∧ Below W.heap.size W w' := by
  have h := verCompare_any _ _ a b 1 1 W hx hy
  rw [show Pl.cmpV ⟨1, 0, 0, [(⟨#[57]⟩ : ByteArray)]⟩ ⟨1, 0, 0, [(⟨#[49, 48]⟩ : ByteArray)]⟩ = -1 by decide +kernel, show Pl.cmpF ⟨1, 0, 0, [(⟨#[57]⟩ : ByteArray)]⟩ ⟨1, 0, 0, [(⟨#[49, 48]⟩ : ByteArray)]⟩ = (0, 0) by decide +kernel] at h
  exact h
theorem orC2 (W : World) (b : Option Addr) (hy : VIn W ⟨1, 0, 0, [(⟨#[97]⟩ : ByteArray)]⟩ b 1) :
    Calls Tryd.prog 13 #[.agg #[.int .i64 1, .int .i64 0, .int .i64 0, .slice none 0 0], .agg #[.int .i64 1, .int .i64 0, .int .i64 0, .slice b 1 1]] W fun e w' => e = .returned (.tuple #[.int .i64 1, .agg #[.int .i64 0, .int .i64 0]]) ∧ Below W.heap.size W w' := by
  have h := verCompare_any ⟨1, 0, 0, []⟩ _ none b 0 1 W ⟨⟨by simp [strVals], Nat.le_refl _, Nat.zero_le _, .inl rfl⟩, fun s hs => by cases hs⟩ hy
  rw [show Pl.cmpV ⟨1, 0, 0, []⟩ ⟨1, 0, 0, [(⟨#[97]⟩ : ByteArray)]⟩ = 1 by decide +kernel, show Pl.cmpF ⟨1, 0, 0, []⟩ ⟨1, 0, 0, [(⟨#[97]⟩ : ByteArray)]⟩ = (0, 0) by decide +kernel] at h
  exact h
theorem orN (W : World) :
    Calls Tryd.prog 16 #[.agg #[.int .i64 1, .int .i64 2, .int .i64 3, .slice none 0 0]] W fun e w' => ∃ a c, e = .returned (.tuple #[.agg #[.int .i64 1, .int .i64 2, .int .i64 4, .slice a 1 c], .agg #[.int .i64 0, .int .i64 0]]) ∧ VIn w' ⟨1, 2, 4, [(⟨#[48]⟩ : ByteArray)]⟩ a c ∧ Below W.heap.size W w' := by
  have h := Next_any ⟨1, 2, 3, []⟩ none 0 W ⟨⟨by simp [strVals], Nat.le_refl _, Nat.zero_le _, .inl rfl⟩, fun s hs => by cases hs⟩
  rw [show Pl.nextV ⟨1, 2, 3, []⟩ = ⟨1, 2, 4, [(⟨#[48]⟩ : ByteArray)]⟩ by apply Pl.Ver.ext' <;> decide +kernel, show Pl.nextF ⟨1, 2, 3, []⟩ = (0, 0) by decide +kernel] at h
  exact h
theorem orF (W : World) (a : Option Addr) (hx : VIn W ⟨1, 2, 3, [(⟨#[114, 99]⟩ : ByteArray)]⟩ a 1) (E : Env W) :
    Calls Tryd.prog 18 #[.agg #[.int .i64 1, .int .i64 2, .int .i64 3, .slice a 1 1]] W fun e w' => e = .returned (.tuple #[.string (⟨#[49, 46, 50, 46, 51, 45, 114, 99]⟩ : ByteArray), .agg #[.int .i64 0, .int .i64 0]]) ∧ Below W.heap.size W w' := by
  have h := Format_any _ a 1 W hx E
  rw [show Pl.fmtV ⟨1, 2, 3, [(⟨#[114, 99]⟩ : ByteArray)]⟩ = (⟨#[49, 46, 50, 46, 51, 45, 114, 99]⟩ : ByteArray) by decide +kernel, show Pl.vrF ⟨1, 2, 3, [(⟨#[114, 99]⟩ : ByteArray)]⟩ = (0, 0) by decide +kernel] at h
  exact h
theorem orP1 (W : World) (E : Env W) :
    Calls Tryd.prog 20 #[.string (⟨#[49, 46, 50, 46, 51, 45, 114, 99]⟩ : ByteArray)] W fun e w' => ∃ a c, e = .returned (.tuple #[.agg #[.int .i64 1, .int .i64 2, .int .i64 3, .slice a 1 c], .agg #[.int .i64 0, .int .i64 0]]) ∧ VIn w' ⟨1, 2, 3, [(⟨#[114, 99]⟩ : ByteArray)]⟩ a c ∧ Below W.heap.size W w' := by
  have h := Parse_any (⟨#[49, 46, 50, 46, 51, 45, 114, 99]⟩ : ByteArray) W (by decide) E
  rw [show Pl.parV (⟨#[49, 46, 50, 46, 51, 45, 114, 99]⟩ : ByteArray) = ⟨1, 2, 3, [(⟨#[114, 99]⟩ : ByteArray)]⟩ by apply Pl.Ver.ext' <;> decide +kernel, show Pl.parF (⟨#[49, 46, 50, 46, 51, 45, 114, 99]⟩ : ByteArray) = (0, 0) by decide +kernel] at h
  exact h
theorem orP2 (W : World) (E : Env W) :
    Calls Tryd.prog 20 #[.string (⟨#[49, 46, 48, 50, 46, 51]⟩ : ByteArray)] W fun e w' => ∃ a c, e = .returned (.tuple #[.agg #[.int .i64 0, .int .i64 0, .int .i64 0, .slice a 0 c], .agg #[.int .i64 1, .int .i64 (-1)]]) ∧ VIn w' Pl.Ver.zero a c ∧ Below W.heap.size W w' := by
  have h := Parse_any (⟨#[49, 46, 48, 50, 46, 51]⟩ : ByteArray) W (by decide) E
  rw [show Pl.parV (⟨#[49, 46, 48, 50, 46, 51]⟩ : ByteArray) = Pl.Ver.zero by apply Pl.Ver.ext' <;> decide +kernel, show Pl.parF (⟨#[49, 46, 48, 50, 46, 51]⟩ : ByteArray) = (1, -1) by decide +kernel] at h
  exact h
theorem orS1 (W : World) (a b : Option Addr) (c : Nat) (hx : VIn W ⟨1, 2, 4, [(⟨#[48]⟩ : ByteArray)]⟩ a c) (hy : VIn W ⟨1, 2, 4, [(⟨#[48]⟩ : ByteArray)]⟩ b 1) :
    Calls Tryd.prog 17 #[.agg #[.int .i64 1, .int .i64 2, .int .i64 4, .slice a 1 c], .agg #[.int .i64 1, .int .i64 2, .int .i64 4, .slice b 1 1]] W fun e w' => e = .returned (.bool true) ∧ Below W.heap.size W w' := by
  have h := SameVersion_any _ _ a b c 1 W hx hy
  rw [show Pl.sameB ⟨1, 2, 4, [(⟨#[48]⟩ : ByteArray)]⟩ ⟨1, 2, 4, [(⟨#[48]⟩ : ByteArray)]⟩ = true by decide +kernel] at h
  exact h
theorem orS2 (W : World) (a b : Option Addr) (c : Nat) (hx : VIn W ⟨1, 2, 3, [(⟨#[114, 99]⟩ : ByteArray)]⟩ a c) (hy : VIn W ⟨1, 2, 3, [(⟨#[114, 99]⟩ : ByteArray)]⟩ b 1) :
    Calls Tryd.prog 17 #[.agg #[.int .i64 1, .int .i64 2, .int .i64 3, .slice a 1 c], .agg #[.int .i64 1, .int .i64 2, .int .i64 3, .slice b 1 1]] W fun e w' => e = .returned (.bool true) ∧ Below W.heap.size W w' := by
  have h := SameVersion_any _ _ a b c 1 W hx hy
  rw [show Pl.sameB ⟨1, 2, 3, [(⟨#[114, 99]⟩ : ByteArray)]⟩ ⟨1, 2, 3, [(⟨#[114, 99]⟩ : ByteArray)]⟩ = true by decide +kernel] at h
  exact h
end Go.Proofs.YthnhajihkdgifaaDoor
