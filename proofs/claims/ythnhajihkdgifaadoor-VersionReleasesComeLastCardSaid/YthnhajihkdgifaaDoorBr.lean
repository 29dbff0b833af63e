/- The library's cutting, splitting and reading of numbers, in the words of lists. -/
import Derived.Test.YthnhajihkdgifaaDoorBq
namespace Go.Proofs.YthnhajihkdgifaaDoor
open Go.RowKit

theorem Cut_at (s : ByteArray) (w : World) (hs : s.size ≤ 1048576) (E : Env w) :
    Calls Tryd.prog 37 #[.string s, .string (⟨#[45]⟩ : ByteArray)] w fun e w' => e = .returned (.tuple #[.string (Pl.mkS (Lib.cut (Pl.bsl s) [45]).1), .string (Pl.mkS (Lib.cut (Pl.bsl s) [45]).2.1), .bool (Lib.cut (Pl.bsl s) [45]).2.2]) ∧ ∃ q, w' = w.drewN q := by
  obtain ⟨m, hm⟩ := E.len
  exact Tryd.strings_Cut s (⟨#[45]⟩ : ByteArray) m w (by omega) hm
theorem split_B (s : ByteArray) (c : UInt8) : Lib.splitB ⟨#[c]⟩ 0 (Lib.countB s ⟨#[c]⟩) s = (Lib.split (Pl.bsl s) [c]).map Pl.mkS := by
  apply Pl.map_bsl_inj
  rw [List.map_map]
  have h := Lib.splitB_data ⟨#[c]⟩ 0 (Lib.countB s ⟨#[c]⟩) s
  have e : (Lib.split (Pl.bsl s) [c]).map (Pl.bsl ∘ Pl.mkS) = Lib.split (Pl.bsl s) [c] := by
    conv => rhs; rw [← List.map_id (Lib.split (Pl.bsl s) [c])]
    exact List.map_congr_left fun l _ => Pl.bsl_mkS l
  rw [e]
  exact h
theorem Split_at (s : ByteArray) (c : UInt8) (w : World) (hs : s.size ≤ 1048576) (E : Env w) :
    Calls Tryd.prog 38 #[.string s, .string ⟨#[c]⟩] w fun e w' => e = .returned (.slice (some ⟨w.heap.size, 0, none⟩) (Lib.split (Pl.bsl s) [c]).length (Lib.split (Pl.bsl s) [c]).length) ∧
      w' = w.alloc (.cells (strVals ((Lib.split (Pl.bsl s) [c]).map Pl.mkS)).toArray 9) := by
  obtain ⟨m, hm⟩ := E.len
  have h := Tryd.strings_Split s ⟨#[c]⟩ m w (by omega) hm (Nat.le_refl _)
  have hl : Lib.countB s ⟨#[c]⟩ + 1 = (Lib.split (Pl.bsl s) [c]).length := by
    have := Lib.splitB_all ⟨#[c]⟩ (Nat.le_refl _) 0 _ s rfl
    rw [split_B, List.length_map] at this
    exact this.symm
  rw [hl, split_B] at h
  exact h
theorem Atoi_any (s : ByteArray) (w : World) (hs : s.size ≤ 1048576) (E : Env w) :
    Calls Tryd.prog 39 #[.string s] w fun e w' => ∃ er, e = .returned (.tuple #[.int .i64 (Pl.atoiV (Pl.bsl s)), er]) ∧ Below w.heap.size w w' := by
  obtain ⟨t1, p1, h1⟩ := E.syn
  obtain ⟨t2, p2, h2⟩ := E.rng
  unfold Pl.atoiV
  rcases h : Lib.atoiAll (Pl.bsl s) with v | _ | _
  · refine (Tryd.strconv_Atoi_ok s (by omega) v h w).mono ?_
    rintro e w' ⟨rfl, hw⟩
    refine ⟨_, rfl, ?_⟩
    rcases hw with rfl | ⟨t, rfl⟩
    · exact Below.refl _ _
    · exact Lib.bytesWorld_below _ _ _
  · refine (Tryd.strconv_Atoi_syntax s (by omega) h _ w h1 (.inr ⟨_, _, rfl⟩)).mono ?_
    rintro e w' ⟨N, rfl, -, -, hb⟩
    exact ⟨_, rfl, hb⟩
  · refine (Tryd.strconv_Atoi_range s (by omega) h _ w h2 (.inr ⟨_, _, rfl⟩)).mono ?_
    rintro e w' ⟨N, rfl, -, -, hb⟩
    exact ⟨_, rfl, hb⟩
end Go.Proofs.YthnhajihkdgifaaDoor
