/- The closed example of package signing. -/
import Derived.Test.YtkhkijpkgogncaaWf
import Derived.Test.YtkhkijpkgogncaaKb
namespace Go.Proofs.Ytkhkijpkgogncaa
open Go.RowKit

theorem signs_any (w : World) : Calls Try.prog 42 #[] w fun e w' => e = .returned (.bool true) ∧ Below w.heap.size w w' := by
  go_enter Try.func42, Try.ntmps42
  go_wp2_with fail
  refine (Sign_ok 1 [] none 0 _ (Sl.nil _ _) (by decide) (by decide)).mono ?_
  rintro e w1 ⟨rfl, hb1⟩
  have hv : Pl.signS 1 [] = 1000041 := by decide
  rw [hv]
  clear hv
  have s1 := hb1.size
  have B1 : Below w.heap.size w (w1.alloc (.cells #[.int .i64 0, .int .i64 0] 26)) := by go_grown
  have X1 := Box2.new w1 (.int .i64 0) (.int .i64 0) 26
  go_wp2_with fail
  refine (Verify_ok 1 1000041 [] none 0 _ (Sl.nil _ _) (by decide) (by decide) (by decide)).mono ?_
  rintro e w2 ⟨rfl, hb2⟩
  have hv : (Pl.signS 1 [] == 1000041) = true := by decide
  rw [hv]
  clear hv
  have s2 := hb2.size
  have X1 := (X1.below hb2 X1.lt).alloc (.cells #[.int .i64 0, .int .i64 0] 26)
  have X2 := Box2.new w2 (.int .i64 0) (.int .i64 0) 26
  have B2 : Below w.heap.size w (w2.alloc (.cells #[.int .i64 0, .int .i64 0] 26)) := (bcall B1 hb2 (by simp; omega)).alloc (by simp at *; omega) _
  go_wp2_with fail
  refine (Message_any [258] _ 1 _ (Sl.fresh (C := intVals [258]) (by simp) rfl (by decide) (by decide)) (by decide)).mono ?_
  rintro e w3 ⟨oa, cap, rfl, hown, hb3⟩
  have h1 : Pl.msgF [258] = (0, 0) := by decide
  have h2 : Pl.msgV [258] = [0, 0, 0, 0, 0, 0, 1, 2] := by decide
  rw [h1, h2]
  rw [h2] at hown
  clear h1 h2
  have hconv := run_b2s (P := Try.prog) (src := 68) (dst := 9) Try.underlying68 Try.underlying5 Try.underlying9 ((Sl.own hown).below (B := w3.heap.size) ((Below.refl _ _).alloc (Nat.le_refl _) (.cells #[.int .i64 0, .int .i64 0] 26)) (Nat.le_refl _))
  have hconv : (convert 68 9 (.slice oa 8 cap)).run Try.prog (w3.alloc (.cells #[.int .i64 0, .int .i64 0] 26)) = .ok (.string ⟨#[0, 0, 0, 0, 0, 0, 1, 2]⟩) (w3.alloc (.cells #[.int .i64 0, .int .i64 0] 26)) := hconv
  have B3 : Below w.heap.size w w3 := bcall (B2.alloc (by simp at *; omega) _) hb3 (by simp at *; omega)
  have s3 := hb3.size
  simp only [World.size_alloc] at s1 s2 s3
  have l1 := X1.lt
  obtain ⟨a0, a1, _, _, _⟩ := ((X1.alloc (.cells #[.int .i64 258] 3)).below hb3 (by simp at *; omega)).alloc (.cells #[.int .i64 0, .int .i64 0] 26)
  obtain ⟨b0, b1, _, _, _⟩ := ((X2.alloc (.cells #[.int .i64 258] 3)).below hb3 (by go_size)).alloc (.cells #[.int .i64 0, .int .i64 0] 26)
  go_wp2_with fail
  go_ret
  exact ⟨rfl, by go_grown⟩
end Go.Proofs.Ytkhkijpkgogncaa
