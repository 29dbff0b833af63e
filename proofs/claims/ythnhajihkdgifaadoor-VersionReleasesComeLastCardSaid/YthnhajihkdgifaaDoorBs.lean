/- Contract: a version is read, by the program. -/
import Derived.Test.YthnhajihkdgifaaDoorBr
import Derived.Test.YthnhajihkdgifaaDoorKn
namespace Go.Proofs.YthnhajihkdgifaaDoor
open Go.RowKit

namespace Pl
def parV (s : ByteArray) : Ver := if 80 < s.size then Ver.zero else (progParse (bsl s)).getD Ver.zero
def parF (s : ByteArray) : Int × Int := if 80 < s.size then (2, -1) else match progParse (bsl s) with | some _ => (0, 0) | none => (1, -1)
theorem par_none {s : ByteArray} (h0 : s.size ≤ 80) (h : progParse (bsl s) = none) : parV s = Ver.zero ∧ parF s = (1, -1) := by
  unfold parV parF; rw [if_neg (by omega), if_neg (by omega), h]; exact ⟨rfl, rfl⟩
theorem par_some {s : ByteArray} {v : Ver} (h0 : s.size ≤ 80) (h : progParse (bsl s) = some v) : parV s = v ∧ parF s = (0, 0) := by
  unfold parV parF; rw [if_neg (by omega), if_neg (by omega), h]; exact ⟨rfl, rfl⟩
theorem prog_none1 {s : List UInt8} (h : (Lib.split (Lib.cut s [45]).1 [46]).length ≠ 3) : progParse s = none := by unfold progParse progTry; rw [if_pos h]
theorem prog_try {s : List UInt8} {a b c : List UInt8} (h : Lib.split (Lib.cut s [45]).1 [46] = [a, b, c]) :
    progParse s = if (vrF ⟨atoiV a, atoiV b, atoiV c, if (Lib.cut s [45]).2.2 = true then (Lib.split (Lib.cut s [45]).2.1 [46]).map mkS else []⟩).1 = 0 ∧ verT ⟨atoiV a, atoiV b, atoiV c, if (Lib.cut s [45]).2.2 = true then (Lib.split (Lib.cut s [45]).2.1 [46]).map mkS else []⟩ = s then some ⟨atoiV a, atoiV b, atoiV c, if (Lib.cut s [45]).2.2 = true then (Lib.split (Lib.cut s [45]).2.1 [46]).map mkS else []⟩ else none := by
  unfold progParse progTry; rw [h]; rfl
theorem cut_len (s : List UInt8) (c : UInt8) : (Lib.cut s [c]).1.length ≤ s.length ∧ (Lib.cut s [c]).2.1.length ≤ s.length := by
  unfold Lib.cut
  split
  · simp only [List.length_take, List.length_drop]; omega
  · simp
theorem splitK_size (c : UInt8) : ∀ (k : Nat) (s : List UInt8), ∀ x ∈ Lib.splitK [c] 0 k s, x.length ≤ s.length
  | 0, s, x, hx => by rw [Lib.splitK, List.mem_singleton] at hx; rw [hx]; exact Nat.le_refl _
  | k + 1, s, x, hx => by
    rw [Lib.splitK] at hx
    split at hx
    · rw [List.mem_singleton.1 hx]; exact Nat.le_refl _
    · rcases List.mem_cons.1 hx with rfl | hx
      · rw [List.length_take]; omega
      · have := splitK_size c k _ x hx
        rw [List.length_drop] at this; omega
theorem split_size (s : List UInt8) (c : UInt8) : ∀ x ∈ Lib.split s [c], x.length ≤ s.length := splitK_size c _ s
theorem splitK_len (c : UInt8) : ∀ (k : Nat) (s : List UInt8), (Lib.splitK [c] 0 k s).length ≤ k + 1
  | 0, s => by rw [Lib.splitK]; simp
  | k + 1, s => by
    rw [Lib.splitK]
    split
    · simp
    · have := splitK_len c k (s.drop ((Lib.index s [c]).toNat + [c].length))
      rw [List.length_cons]; omega
theorem split_len (s : List UInt8) (c : UInt8) : (Lib.split s [c]).length ≤ s.length + 2 := by
  have := splitK_len c (Lib.count s [c]) s
  have h2 := Lib.count_le s [c]
  unfold Lib.split
  omega
end Pl

theorem list3 {α : Type} {l : List α} (h : l.length = 3) : ∃ a b c, l = [a, b, c] := by
  match l, h with
  | [a, b, c], _ => exact ⟨a, b, c, rfl⟩
theorem atoi_at {S : ByteArray} {x : List UInt8} {n : Int} (hS : Pl.mkS x = S) (hn : Pl.atoiV x = n) (hx : x.length ≤ 80) : ∀ W, Env W → Calls Tryd.prog 39 #[.string S] W fun e w' => ∃ er, e = .returned (.tuple #[.int .i64 n, er]) ∧ Below W.heap.size W w' := fun W e => by
  have := Atoi_any S W (by rw [← hS, Pl.mkS_size]; omega) e
  rw [← hS, Pl.bsl_mkS, hn] at this
  rw [← hS]
  exact this
/-- The version's box with the first j numbers. -/
def pcJ (n0 n1 n2 : Int) (P : Value) (j : Nat) : List Value := [.int .i64 (if 0 < j then n0 else 0), .int .i64 (if 1 < j then n1 else 0), .int .i64 (if 2 < j then n2 else 0), P]
def PLoop (w : World) (v1 nl np : Nat) (n0 n1 n2 : Int) (P : Value) (S0 S1 S2 : ByteArray) (Pa : Option Addr) (prel : List ByteArray) (Pc : Nat) (x : Value) (wr : World) : Prop := ∃ j : Nat, j ≤ 3 ∧ x = .int .i64 (j : Int) ∧ Below w.heap.size w wr ∧ np + 1 ≤ wr.heap.size ∧
  Hid (Blk wr w.heap.size [.int .i64 0, .int .i64 0, .int .i64 0, .slice none 0 0] ∧ Box2 wr (w.heap.size + 1) (.int .i64 0) (.int .i64 0) ∧ Box2 wr (w.heap.size + 1 + 1) (.int .i64 1) (.int .i64 (-1)) ∧ Blk wr v1 (pcJ n0 n1 n2 P j) ∧ Blk wr nl [.string S0, .string S1, .string S2] ∧ Blk wr np [.pointer (some ⟨v1, 0, none⟩), .pointer (some ⟨v1, 1, none⟩), .pointer (some ⟨v1, 2, none⟩)] ∧ Sl wr Pa prel.length Pc 1 (strVals prel))
theorem Sl_far {w : World} {oa : Option Addr} {n cap sz : Nat} {cs : List Value} (h : Sl w oa n cap sz cs) {a : Addr} (hne : ∀ b off, oa = some ⟨b, off, none⟩ → b ≠ a.block) (v : Value) : Sl (w.setCell a v) oa n cap sz cs := by
  refine ⟨h.hl, h.hcap, h.hmax, ?_⟩
  rcases h.mem with h0 | ⟨b, off, h1, h2, h3⟩
  · exact .inl h0
  · refine .inr ⟨b, off, h1, by simpa using h2, fun j u hu => ?_⟩
    rw [World.cell?_setCell_other _ _ _ _ (by intro h4; have := congrArg Addr.block h4; exact hne b off h1 (by first | exact this | exact this.symm))]
    exact h3 j u hu
theorem pre_cap {pre : List UInt8} (h : pre.length ≤ 80) : (Lib.split pre [46]).length ≤ maxLen := by
  have := Pl.split_len pre 46
  unfold maxLen; omega
set_option maxHeartbeats 1000000 in
theorem Parse_long (s : ByteArray) (w : World) (hs : s.size ≤ 9223372036854775807) (h : 80 < s.size) :
    Calls Tryd.prog 20 #[.string s] w (RVerF (Pl.parV s) (Pl.parF s) w) := by
  have E1 : Pl.parV s = Pl.Ver.zero := by unfold Pl.parV; rw [if_pos h]
  have E2 : Pl.parF s = (2, -1) := by unfold Pl.parF; rw [if_pos h]
  rw [E1, E2]
  clear E1 E2
  go_enter Tryd.func20, Tryd.ntmps20
  go_wp2_with fail
  go_returns
  exact ⟨none, 0, rfl, VIn.zero _, by go_grown⟩
end Go.Proofs.YthnhajihkdgifaaDoor
