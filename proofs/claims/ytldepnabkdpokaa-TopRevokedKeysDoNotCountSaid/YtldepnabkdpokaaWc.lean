/- Contracts: signatures. -/
import Derived.Test.YtldepnabkdpokaaWb
namespace Go.Proofs.Ytldepnabkdpokaa
open Go.RowKit

theorem signF_eq (k : Int) (n : Nat) : Pl.signF k n = if Pl.isKeyB k then (if n ≤ 4096 then (0, 0) else (2, 0)) else (3, -1) := rfl

/-- A signature by a key, of data that is not too long. -/
theorem Sign_ok (k : Int) (l : List UInt8) (oa : Option Addr) (cap : Nat) (w : World) (hs : Sl w oa l.length cap 1 (byteVals l)) (hk : Pl.isKeyB k = true) (hn : l.length ≤ 4096) :
    Calls Try.prog 7 #[.int .i64 k, .slice oa l.length cap] w fun e w' => e = .returned (.tuple #[.int .i64 (Pl.signS k l), .agg #[.int .i64 0, .int .i64 0]]) ∧ Below w.heap.size w w' := by
  have rk := Pl.isKeyB_true.1 hk
  have hr := Pl.ofS_range l
  have hr1 : Pl.isDigestB k = true := Pl.isDigestB_true.2 (by omega)
  have hr2 : Pl.isDigestB (Pl.ofS l) = true := Pl.isDigestB_true.2 ⟨hr.1, by have := hr.2; rw [Pl.M_eq] at this; omega⟩
  have Hr1 := Lib.hid hr1
  have Hr2 := Lib.hid hr2
  clear hr hr1 hr2
  go_enter Try.func7, Try.ntmps7
  go_wp2_with (go_at_call 27; refine (isKey_any _ _).mono ?_; rintro e w' ⟨rfl, rfl⟩)
  refine (Of_ok l oa cap _ (hs.below ((Below.refl _ _).alloc (Nat.le_refl _) _) (Nat.le_refl _)) hn).mono ?_
  rintro e w1 ⟨rfl, hb1⟩
  have X1 := (Box2.new w (.int .i64 0) (.int .i64 0) 27).below hb1 (by simp)
  go_wp2_with fail
  refine (Pair_ok _ _ _ Hr1.out Hr2.out).mono ?_
  rintro e w2 ⟨rfl, hb2⟩
  obtain ⟨c0, c1, f0, f1, _⟩ := (X1.alloc _).below hb2 (by simp; have := X1.lt; omega)
  go_wp2_with fail
  refine bodyPost_ret (v := .tuple #[.int .i64 (Pl.signS k l), .agg #[.int .i64 0, .int .i64 0]]) (by simp [results, Try.results7, go_sem, c0, c1]; rfl) rfl ⟨rfl, ?_⟩
  exact ((((((Below.refl _ _).alloc (Nat.le_refl _) _).trans (hb1.mono (by simp))).alloc (by have := hb1.size; simp at this; omega) _).trans (hb2.mono (by have := hb1.size; simp at this ⊢; omega))).setCell (by simp) _).setCell (by simp) _

theorem Sign_key (k : Int) (l : List UInt8) (oa : Option Addr) (cap : Nat) (w : World) (hk : Pl.isKeyB k = false) :
    Calls Try.prog 7 #[.int .i64 k, .slice oa l.length cap] w fun e w' => e = .returned (.tuple #[.int .i64 0, .agg #[.int .i64 3, .int .i64 (-1)]]) ∧ Below w.heap.size w w' := by
  go_enter Try.func7, Try.ntmps7
  go_wp2_with (go_at_call 27; refine (isKey_any _ _).mono ?_; rintro e w' ⟨rfl, rfl⟩)
  go_returns
  exact ⟨rfl, by go_grown⟩

theorem Sign_long (k : Int) (l : List UInt8) (oa : Option Addr) (cap : Nat) (w : World) (hk : Pl.isKeyB k = true) (hn : ¬ l.length ≤ 4096) (hm : l.length ≤ 9223372036854775807) :
    Calls Try.prog 7 #[.int .i64 k, .slice oa l.length cap] w fun e w' => e = .returned (.tuple #[.int .i64 0, .agg #[.int .i64 2, .int .i64 0]]) ∧ Below w.heap.size w w' := by
  go_enter Try.func7, Try.ntmps7
  go_wp2_with (go_at_call 27; refine (isKey_any _ _).mono ?_; rintro e w' ⟨rfl, rfl⟩)
  refine (Of_long l oa cap _ hn hm).mono ?_
  rintro e w1 ⟨rfl, hb1⟩
  obtain ⟨c0, c1, f0, f1, l1⟩ := (Box2.new w (.int .i64 0) (.int .i64 0) 27).below hb1 (by simp)
  have B1 : Below w.heap.size w w1 := bcall (by go_grown) hb1 (by simp)
  go_wp2_with fail
  go_region
  go_wp2_with fail
  refine bodyPost_ret (v := .tuple #[.int .i64 0, .agg #[.int .i64 2, .int .i64 0]]) (by simp [results, Try.results7, go_sem, c0, c1, l1]) rfl ⟨rfl, by go_grown⟩

namespace Pl
/-- What Verify answers, and its fault. -/
def verF (k : Int) (n : Nat) (s : Int) : Int × Int := if (signF k n).1 = 0 then (if isDigestB s then (0, 0) else (3, -2)) else signF k n
def verB (k : Int) (l : List UInt8) (s : Int) : Bool := decide ((verF k l.length s).1 = 0) && (signS k l == s)
end Pl

theorem Verify_key (k s : Int) (l : List UInt8) (oa : Option Addr) (cap : Nat) (w : World) (hk : Pl.isKeyB k = false) :
    Calls Try.prog 16 #[.int .i64 k, .slice oa l.length cap, .int .i64 s] w fun e w' => e = .returned (.tuple #[.bool false, .agg #[.int .i64 3, .int .i64 (-1)]]) ∧ Below w.heap.size w w' := by
  go_enter Try.func16, Try.ntmps16
  go_wp2_with fail
  refine (Sign_key k l oa cap _ hk).mono ?_
  rintro e w1 ⟨rfl, hb1⟩
  obtain ⟨c0, c1, f0, f1, l1⟩ := (Box2.new w (.int .i64 0) (.int .i64 0) 27).below hb1 (by simp)
  have B1 : Below w.heap.size w w1 := bcall (by go_grown) hb1 (by simp)
  go_wp2_with fail
  go_region
  go_wp2_with fail
  refine bodyPost_ret (v := .tuple #[.bool false, .agg #[.int .i64 3, .int .i64 (-1)]]) (by simp [results, Try.results16, go_sem, c0, c1, l1]) rfl ⟨rfl, by go_grown⟩

theorem Verify_long (k s : Int) (l : List UInt8) (oa : Option Addr) (cap : Nat) (w : World) (hk : Pl.isKeyB k = true) (hn : ¬ l.length ≤ 4096) (hm : l.length ≤ 9223372036854775807) :
    Calls Try.prog 16 #[.int .i64 k, .slice oa l.length cap, .int .i64 s] w fun e w' => e = .returned (.tuple #[.bool false, .agg #[.int .i64 2, .int .i64 0]]) ∧ Below w.heap.size w w' := by
  go_enter Try.func16, Try.ntmps16
  go_wp2_with fail
  refine (Sign_long k l oa cap _ hk hn hm).mono ?_
  rintro e w1 ⟨rfl, hb1⟩
  obtain ⟨c0, c1, f0, f1, l1⟩ := (Box2.new w (.int .i64 0) (.int .i64 0) 27).below hb1 (by simp)
  have B1 : Below w.heap.size w w1 := bcall (by go_grown) hb1 (by simp)
  go_wp2_with fail
  go_region
  go_wp2_with fail
  refine bodyPost_ret (v := .tuple #[.bool false, .agg #[.int .i64 2, .int .i64 0]]) (by simp [results, Try.results16, go_sem, c0, c1, l1]) rfl ⟨rfl, by go_grown⟩

theorem Verify_num (k s : Int) (l : List UInt8) (oa : Option Addr) (cap : Nat) (w : World) (hs : Sl w oa l.length cap 1 (byteVals l)) (hk : Pl.isKeyB k = true) (hn : l.length ≤ 4096) (hd : Pl.isDigestB s = false) :
    Calls Try.prog 16 #[.int .i64 k, .slice oa l.length cap, .int .i64 s] w fun e w' => e = .returned (.tuple #[.bool false, .agg #[.int .i64 3, .int .i64 (-2)]]) ∧ Below w.heap.size w w' := by
  go_enter Try.func16, Try.ntmps16
  go_wp2_with fail
  refine (Sign_ok k l oa cap _ (hs.below ((Below.refl _ _).alloc (Nat.le_refl _) _) (Nat.le_refl _)) hk hn).mono ?_
  rintro e w1 ⟨rfl, hb1⟩
  obtain ⟨c0, c1, f0, f1, l1⟩ := (Box2.new w (.int .i64 0) (.int .i64 0) 27).below hb1 (by simp)
  have B1 : Below w.heap.size w w1 := bcall (by go_grown) hb1 (by simp)
  go_wp2_with (go_at_call 31; refine (isDigest_any _ _).mono ?_; rintro e w' ⟨rfl, rfl⟩)
  refine bodyPost_ret (v := .tuple #[.bool false, .agg #[.int .i64 3, .int .i64 (-2)]]) (by simp [results, Try.results16, go_sem, c0, c1, l1]) rfl ⟨rfl, by go_grown⟩

theorem Verify_ok (k s : Int) (l : List UInt8) (oa : Option Addr) (cap : Nat) (w : World) (hs : Sl w oa l.length cap 1 (byteVals l)) (hk : Pl.isKeyB k = true) (hn : l.length ≤ 4096) (hd : Pl.isDigestB s = true) :
    Calls Try.prog 16 #[.int .i64 k, .slice oa l.length cap, .int .i64 s] w fun e w' => e = .returned (.tuple #[.bool (Pl.signS k l == s), .agg #[.int .i64 0, .int .i64 0]]) ∧ Below w.heap.size w w' := by
  go_enter Try.func16, Try.ntmps16
  go_wp2_with fail
  refine (Sign_ok k l oa cap _ (hs.below ((Below.refl _ _).alloc (Nat.le_refl _) _) (Nat.le_refl _)) hk hn).mono ?_
  rintro e w1 ⟨rfl, hb1⟩
  obtain ⟨c0, c1, f0, f1, l1⟩ := (Box2.new w (.int .i64 0) (.int .i64 0) 27).below hb1 (by simp)
  have B1 : Below w.heap.size w w1 := bcall (by go_grown) hb1 (by simp)
  go_wp2_with (go_at_call 31; refine (isDigest_any _ _).mono ?_; rintro e w' ⟨rfl, rfl⟩)
  refine bodyPost_ret (v := .tuple #[.bool (Pl.signS k l == s), .agg #[.int .i64 0, .int .i64 0]]) (by simp [results, Try.results16, go_sem, c0, c1, l1]) rfl ⟨rfl, by go_grown⟩
end Go.Proofs.Ytldepnabkdpokaa
