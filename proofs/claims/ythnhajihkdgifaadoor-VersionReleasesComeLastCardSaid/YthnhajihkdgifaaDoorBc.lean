/- Contracts of package version: digits, identifiers, the first number that is not zero. -/
import Derived.Test.YthnhajihkdgifaaDoorBb
import Derived.Test.YthnhajihkdgifaaDoorPq
import Derived.Test.YthnhajihkdgifaaDoorSc
namespace Go.Proofs.YthnhajihkdgifaaDoor
open Go.RowKit

namespace Pl
/-- Bytes of ASCII. -/
def asciiB (l : List UInt8) : Bool := l.all fun c => decide (c.toNat < 128)
theorem ascii_get {s : ByteArray} (h : asciiB (bsl s) = true) {k : Nat} (hk : k < s.size) : s[k].toNat < 128 := by
  unfold asciiB at h
  rw [List.all_eq_true] at h
  have := h s[k] (by unfold bsl; exact List.getElem_mem (by simpa using hk))
  simpa using this
theorem idx_ascii {p : Nat → Bool} {s : ByteArray} (ha : asciiB (bsl s) = true) : ∀ (f pos : Nat), s.size ≤ pos + f → decide (0 ≤ Lib.idxFuncFrom p true s f pos) = ((bsl s).drop pos).any fun c => p c.toNat
  | 0, pos, h => by
    rw [List.drop_of_length_le (by rw [bsl_len]; omega)]
    rfl
  | f + 1, pos, h => by
    unfold Lib.idxFuncFrom
    by_cases hlt : pos < s.size
    · rw [if_pos hlt, decode_ascii s pos hlt (ascii_get ha hlt)]
      have hd : (bsl s).drop pos = s[pos] :: (bsl s).drop (pos + 1) := by
        rw [List.drop_eq_getElem_cons (by rw [bsl_len]; exact hlt)]; rfl
      rw [hd, List.any_cons]
      cases hp : p s[pos].toNat with
      | true => rw [if_pos rfl]; simp
      | false => rw [if_neg (by decide), idx_ascii ha f (pos + 1) (by omega)]; rfl
    · rw [if_neg hlt, List.drop_of_length_le (by rw [bsl_len]; omega)]; rfl
theorem idx_any {p : Nat → Bool} {s : ByteArray} (ha : asciiB (bsl s) = true) : decide (0 ≤ Lib.idxFunc p true s) = (bsl s).any fun c => p c.toNat := by
  unfold Lib.idxFunc
  rw [idx_ascii ha s.size 0 (by omega), List.drop_zero]
/-- No digit (a rune). -/
def notDig (x : Nat) : Bool := !(decide (48 ≤ x) && decide (x ≤ 57))
theorem notDig_any (l : List UInt8) : (l.any fun c => notDig c.toNat) = !digsB l := by
  unfold digsB
  induction l with
  | nil => rfl
  | cons c l ih => rw [List.any_cons, List.all_cons, ih, Bool.not_and]; rfl
theorem idc_ascii {c : UInt8} (h : idcB c = true) : c.toNat < 128 := by
  rw [idcB_eq] at h
  simp only [Bool.or_eq_true, inB_true, decide_eq_true_eq] at h
  omega
theorem all_ascii {l : List UInt8} (h : l.all idcB = true) : asciiB l = true := by
  unfold asciiB
  rw [List.all_eq_true] at *
  exact fun c hc => by simpa using idc_ascii (h c hc)
theorem ident_ascii {l : List UInt8} (h : identB l = true) : asciiB l = true := all_ascii (identB_iff.1 h).2.2.1

/-- The first number that is not zero. -/
def orL : List Int → Int
  | [] => 0
  | x :: l => if x = 0 then orL l else x
theorem orL_drop {xs : List Int} {k : Nat} (hk : k < xs.length) (h : orL (xs.drop k) = orL xs) : (xs[k] = 0 → orL (xs.drop (k + 1)) = orL xs) ∧ (xs[k] ≠ 0 → orL xs = xs[k]) := by
  rw [List.drop_eq_getElem_cons hk, orL] at h
  refine ⟨fun e => ?_, fun e => ?_⟩
  · rwa [if_pos e] at h
  · rw [if_neg e] at h; exact h.symm
theorem compareInt_sgn (x y : Int) : Lib.compareInt x y = sgn x y := rfl
end Pl

theorem isDig_gives (w : World) : PredAtRunes Tryd.prog 58 #[] Pl.notDig w := fun W x hx _ => by
  unfold FnGives Pl.notDig
  by_cases h1 : 48 ≤ x <;> by_cases h2 : x ≤ 57
  all_goals
    show Calls Tryd.prog 58 #[.int .i32 x] W _
    go_enter Tryd.func58, Tryd.ntmps58
    go_wp2
    all_goals (go_ret; exact ⟨ret_bool (by first | rfl | (rw [Bool.eq_iff_iff]; simp <;> omega)), 0, rfl⟩)

theorem numeric_any (s : ByteArray) (w : World) (ha : Pl.asciiB (Pl.bsl s) = true) :
    Calls Tryd.prog 43 #[.string s] w fun e w' => e = .returned (.bool (Pl.digsB (Pl.bsl s))) ∧ Below w.heap.size w w' := by
  have E := Lib.hid (show (!decide (0 ≤ Lib.idxFunc Pl.notDig true s)) = Pl.digsB (Pl.bsl s) by rw [Pl.idx_any ha, Pl.notDig_any, Bool.not_not])
  have eg := Lib.hid (show ∀ args w, (callFunc 58 args).run Tryd.prog w = .ok (.enter 58 args) w from enters_of Tryd.func58 (by kernel_rfl) rfl)
  clear ha
  go_enter Tryd.func43, Tryd.ntmps43
  go_wp2_with (go_at_call 57; refine (Tryd.strings_ContainsFunc_runes 58 #[] eg.out Pl.notDig _ _ (isDig_gives _)).mono ?_; rintro e w' ⟨rfl, hb⟩)
  go_ret
  exact ⟨ret_bool E.out, hb⟩

theorem Or_any (xs : List Int) (oa : Option Addr) (cap : Nat) (w : World) (hs : Sl w oa xs.length cap 1 (intVals xs)) (hm : xs.length ≤ 9223372036854775807) :
    Calls Tryd.prog 44 #[.slice oa xs.length cap] w fun e w' => e = .returned (.int .i64 (Pl.orL xs)) ∧ w = w' := by
  rcases hs.mem with h0 | ⟨b, off, rfl, hlt, hc⟩
  · have hl : xs = [] := by simpa [intVals] using h0
    subst hl
    go_enter Tryd.func44, Tryd.ntmps44
    go_wp2
    go_rounds 1
    go_ret
    exact ⟨rfl, rfl⟩
  · clear hs
    go_enter Tryd.func44, Tryd.ntmps44
    go_wp2
    go_loop [8] (fun i => ∃ k : Nat, k ≤ xs.length ∧ i = .int .i64 k ∧ Hid (Pl.orL (xs.drop k) = Pl.orL xs)) (fun i => xs.length - (intOf i).toNat)
    case atStart => exact ⟨0, Nat.zero_le _, rfl, by show Pl.orL (xs.drop 0) = _; rfl⟩
    case round =>
      obtain ⟨k, hk, rfl, hu⟩ := hrel
      by_cases hlt2 : k < xs.length
      · have hcell : w.cell? ⟨b, off + k, none⟩ = some (.int .i64 xs[k]) := hc k _ (intVals_get xs k hlt2)
        clear hc
        obtain ⟨g1, g2⟩ := Pl.orL_drop hlt2 hu.out
        by_cases he : xs[k] = 0
        · have t1 : (xs[k] != 0) = false := by simp [he]
          have t2 : (xs[k] == 0) = true := by simp [he]
          have E := Lib.hid (g1 he)
          clear he g1 g2
          go_wp2
          go_round
          case rel => exact ⟨k + 1, hlt2, by go_num, E⟩
          case measure => simp [intOf]; omega
        · have t1 : (xs[k] != 0) = true := by simp [he]
          have t2 : (xs[k] == 0) = false := by simp [he]
          have E := Lib.hid (g2 he)
          clear he g1 g2
          go_wp2
          go_ret
          exact ⟨ret_int E.out.symm, rfl⟩
      · have E := Lib.hid (show Pl.orL xs = 0 by have := hu.out; rw [List.drop_of_length_le (by omega)] at this; exact this.symm)
        go_wp2
        go_ret
        exact ⟨ret_int E.out.symm, rfl⟩
end Go.Proofs.YthnhajihkdgifaaDoor
