/- Texts joined: Bc Bd Kb. -/
import Derived.Test.YtgngehfgcogceaaGreatDoorZMSc
import Derived.Test.YtgngehfgcogceaaGreatDoorZMPo
section
/- Contracts of package version: digits, identifiers, the first number that is not zero. -/
namespace Go.Proofs.YtgngehfgcogceaaGreatDoor
open Go.RowKit

namespace Pl
/-- Bytes of ASCII. -/
def asciiB (l : List UInt8) : Bool := l.all fun c => decide (c.toNat < 128)
theorem ascii_get {s : ByteArray} (h : asciiB (bsl s) = true) {k : Nat} (hk : k < s.size) : s[k].toNat < 128 := by
  unfold asciiB at h
  rw [List.all_eq_true] at h
  have := h s[k] (by unfold bsl; exact List.getElem_mem (by simpa using hk))
  simpa using this
theorem idx_ascii {p : Nat → Bool} {s : ByteArray} (ha : asciiB (bsl s) = true) : ∀ (f pos : Nat), s.size ≤ pos + f → decide (0 ≤ Lib.idxFuncFrom p true s f pos) = ((bsl s).drop pos).any fun c => p c.toNat
  | 0, pos, h => by
    rw [List.drop_of_length_le (by rw [bsl_len]; omega)]
    rfl
  | f + 1, pos, h => by
    unfold Lib.idxFuncFrom
    by_cases hlt : pos < s.size
    · rw [if_pos hlt, decode_ascii s pos hlt (ascii_get ha hlt)]
      have hd : (bsl s).drop pos = s[pos] :: (bsl s).drop (pos + 1) := by
        rw [List.drop_eq_getElem_cons (by rw [bsl_len]; exact hlt)]; rfl
      rw [hd, List.any_cons]
      cases hp : p s[pos].toNat with
      | true => rw [if_pos rfl]; simp
      | false => rw [if_neg (by decide), idx_ascii ha f (pos + 1) (by omega)]; rfl
    · rw [if_neg hlt, List.drop_of_length_le (by rw [bsl_len]; omega)]; rfl
theorem idx_any {p : Nat → Bool} {s : ByteArray} (ha : asciiB (bsl s) = true) : decide (0 ≤ Lib.idxFunc p true s) = (bsl s).any fun c => p c.toNat := by
  unfold Lib.idxFunc
  rw [idx_ascii ha s.size 0 (by omega), List.drop_zero]
/-- No digit (a rune). -/
def notDig (x : Nat) : Bool := !(decide (48 ≤ x) && decide (x ≤ 57))
theorem notDig_any (l : List UInt8) : (l.any fun c => notDig c.toNat) = !digsB l := by
  unfold digsB
  induction l with
  | nil => rfl
  | cons c l ih => rw [List.any_cons, List.all_cons, ih, Bool.not_and]; rfl
theorem idc_ascii {c : UInt8} (h : idcB c = true) : c.toNat < 128 := by
  rw [idcB_eq] at h
  simp only [Bool.or_eq_true, inB_true, decide_eq_true_eq] at h
  omega
theorem all_ascii {l : List UInt8} (h : l.all idcB = true) : asciiB l = true := by
  unfold asciiB
  rw [List.all_eq_true] at *
  exact fun c hc => by simpa using idc_ascii (h c hc)
theorem ident_ascii {l : List UInt8} (h : identB l = true) : asciiB l = true := all_ascii (identB_iff.1 h).2.2.1

/-- The first number that is not zero. -/
def orL : List Int → Int
  | [] => 0
  | x :: l => if x = 0 then orL l else x
theorem orL_drop {xs : List Int} {k : Nat} (hk : k < xs.length) (h : orL (xs.drop k) = orL xs) : (xs[k] = 0 → orL (xs.drop (k + 1)) = orL xs) ∧ (xs[k] ≠ 0 → orL xs = xs[k]) := by
  rw [List.drop_eq_getElem_cons hk, orL] at h
  refine ⟨fun e => ?_, fun e => ?_⟩
  · rwa [if_pos e] at h
  · rw [if_neg e] at h; exact h.symm
end Pl

theorem isDig_gives (w : World) : PredAtRunes Tryz.prog 92 #[] Pl.notDig w := fun W x hx _ => by
  unfold FnGives Pl.notDig
  by_cases h1 : 48 ≤ x <;> by_cases h2 : x ≤ 57
  all_goals
    show Calls Tryz.prog 92 #[.int .i32 x] W _
    go_enter Tryz.func92, Tryz.ntmps92
    go_wp2
    all_goals (go_ret; exact ⟨ret_bool (by first | rfl | (rw [Bool.eq_iff_iff]; simp <;> omega)), 0, rfl⟩)

theorem numeric_any (s : ByteArray) (w : World) (ha : Pl.asciiB (Pl.bsl s) = true) :
    Calls Tryz.prog 71 #[.string s] w fun e w' => e = .returned (.bool (Pl.digsB (Pl.bsl s))) ∧ Below w.heap.size w w' := by
  have E := Lib.hid (show (!decide (0 ≤ Lib.idxFunc Pl.notDig true s)) = Pl.digsB (Pl.bsl s) by rw [Pl.idx_any ha, Pl.notDig_any, Bool.not_not])
  have eg := Lib.hid (show ∀ args w, (callFunc 92 args).run Tryz.prog w = .ok (.enter 92 args) w from enters_of Tryz.func92 (by kernel_rfl) rfl)
  clear ha
  go_enter Tryz.func71, Tryz.ntmps71
  go_wp2_with (go_at_call 91; refine (Tryz.strings_ContainsFunc_runes 92 #[] eg.out Pl.notDig _ _ (isDig_gives _)).mono ?_; rintro e w' ⟨rfl, hb⟩)
  go_ret
  exact ⟨ret_bool E.out, hb⟩

theorem Or_any (xs : List Int) (oa : Option Addr) (cap : Nat) (w : World) (hs : Sl w oa xs.length cap 1 (intVals xs)) (hm : xs.length ≤ 9223372036854775807) :
    Calls Tryz.prog 67 #[.slice oa xs.length cap] w fun e w' => e = .returned (.int .i64 (Pl.orL xs)) ∧ w = w' := by
  rcases hs.mem with h0 | ⟨b, off, rfl, hlt, hc⟩
  · have hl : xs = [] := by simpa [intVals] using h0
    subst hl
    go_enter Tryz.func67, Tryz.ntmps67
    go_wp2
    go_rounds 1
    go_ret
    exact ⟨rfl, rfl⟩
  · clear hs
    go_enter Tryz.func67, Tryz.ntmps67
    go_wp2
    go_loop [8] (fun i => ∃ k : Nat, k ≤ xs.length ∧ i = .int .i64 k ∧ Hid (Pl.orL (xs.drop k) = Pl.orL xs)) (fun i => xs.length - (intOf i).toNat)
    case atStart => exact ⟨0, Nat.zero_le _, rfl, by show Pl.orL (xs.drop 0) = _; rfl⟩
    case round =>
      obtain ⟨k, hk, rfl, hu⟩ := hrel
      by_cases hlt2 : k < xs.length
      · have hcell : w.cell? ⟨b, off + k, none⟩ = some (.int .i64 xs[k]) := hc k _ (intVals_get xs k hlt2)
        clear hc
        obtain ⟨g1, g2⟩ := Pl.orL_drop hlt2 hu.out
        by_cases he : xs[k] = 0
        · have t1 : (xs[k] != 0) = false := by simp [he]
          have t2 : (xs[k] == 0) = true := by simp [he]
          have E := Lib.hid (g1 he)
          clear he g1 g2
          go_wp2
          go_round
          case rel => exact ⟨k + 1, hlt2, by go_num, E⟩
          case measure => simp [intOf]; omega
        · have t1 : (xs[k] != 0) = true := by simp [he]
          have t2 : (xs[k] == 0) = false := by simp [he]
          have E := Lib.hid (g2 he)
          clear he g1 g2
          go_wp2
          go_ret
          exact ⟨ret_int E.out.symm, rfl⟩
      · have E := Lib.hid (show Pl.orL xs = 0 by have := hu.out; rw [List.drop_of_length_le (by omega)] at this; exact this.symm)
        go_wp2
        go_ret
        exact ⟨ret_int E.out.symm, rfl⟩
end Go.Proofs.YtgngehfgcogceaaGreatDoor

end
section
/- Contracts of package version and of the reference: identifiers and their order. -/
namespace Go.Proofs.YtgngehfgcogceaaGreatDoor
open Go.RowKit

namespace Pl
theorem idcB_yes {c : UInt8} (h : 48 ≤ (c.toNat : Int) ∧ (c.toNat : Int) ≤ 57 ∨ 97 ≤ (c.toNat : Int) ∧ (c.toNat : Int) ≤ 122 ∨ 65 ≤ (c.toNat : Int) ∧ (c.toNat : Int) ≤ 90 ∨ (c.toNat : Int) = 45) : idcB c = true := by
  rw [idcB_eq]; simp only [Bool.or_eq_true, inB_true, decide_eq_true_eq]; omega
theorem idcB_no {c : UInt8} (h : ¬ (48 ≤ (c.toNat : Int) ∧ (c.toNat : Int) ≤ 57 ∨ 97 ≤ (c.toNat : Int) ∧ (c.toNat : Int) ≤ 122 ∨ 65 ≤ (c.toNat : Int) ∧ (c.toNat : Int) ≤ 90 ∨ (c.toNat : Int) = 45)) : idcB c = false := by
  rw [← Bool.not_eq_true, idcB_eq]; simp only [Bool.or_eq_true, inB_true, decide_eq_true_eq]; omega
theorem lead_cases (s : ByteArray) (h0 : 0 < s.size) : digsB (bsl s) = false ∧ leadB (bsl s) = false ∨ digsB (bsl s) = true ∧ s.size ≤ 1 ∧ leadB (bsl s) = false ∨
    digsB (bsl s) = true ∧ 1 < s.size ∧ ((s[0].toNat : Int) == 48) = false ∧ leadB (bsl s) = false ∨ digsB (bsl s) = true ∧ 1 < s.size ∧ ((s[0].toNat : Int) == 48) = true ∧ leadB (bsl s) = true := by
  unfold leadB
  rw [bsl_len, head_get h0]
  cases hd : digsB (bsl s) with
  | false => exact .inl ⟨rfl, rfl⟩
  | true =>
    by_cases h1 : s.size ≤ 1
    · exact .inr (.inl ⟨rfl, h1, by rw [decide_eq_false (by omega)]; rfl⟩)
    · rw [decide_eq_true (show 1 < s.size by omega)]
      by_cases hz : (s[0].toNat : Int) = 48
      · refine .inr (.inr (.inr ⟨rfl, by omega, by simp [hz], ?_⟩))
        have : s[0] = 48 := by rw [← UInt8.toNat_inj]; show _ = 48; omega
        rw [this]; rfl
      · refine .inr (.inr (.inl ⟨rfl, by omega, by simp [hz], ?_⟩))
        have : s[0] ≠ 48 := fun h => hz (by rw [h]; rfl)
        simp [this]
end Pl

set_option maxHeartbeats 1000000 in
theorem identifier_any (s : ByteArray) (w : World) (hs : s.size ≤ 9223372036854775807) :
    Calls Tryz.prog 47 #[.string s] w fun e w' => e = .returned (.bool (Pl.identB (Pl.bsl s))) ∧ Below w.heap.size w w' := by
  by_cases h1 : 1 ≤ s.size ∧ s.size ≤ 8
  · have t1 : ((s.size : Int) == 0) = false := beqF (by omega)
    go_enter Tryz.func47, Tryz.ntmps47
    go_wp2_with fail
    go_loop [15] (fun i => ∃ k : Nat, k ≤ s.size ∧ i = .int .i64 k ∧ Hid (((Pl.bsl s).take k).all Pl.idcB = true)) (fun i => s.size - (intOf i).toNat)
    case atStart => exact ⟨0, Nat.zero_le _, rfl, rfl⟩
    case round =>
      obtain ⟨k, hk, rfl, hu⟩ := hrel
      by_cases hlt : k < s.size
      · have hgood := Lib.hid (fun h => Pl.idcB_snoc (s := s) (k := k) hlt hu.out h)
        have hbad := Lib.hid (fun h => Pl.idcB_bad (s := s) (k := k) hlt h)
        have h255 : (s[k].toNat : Int) ≤ 255 := by have := s[k].toNat_lt; omega
        by_cases h45 : (s[k].toNat : Int) = 45
        · have a1 := beqT h45
          have a2 := bneF h45
          replace h45 := Lib.hid h45
          go_wp2_with fail
          all_goals
            go_round
            case rel => exact ⟨k + 1, by omega, by go_num, Lib.hid (hgood.out (Pl.idcB_yes (.inr (.inr (.inr h45.out)))))⟩
            case measure => simp [intOf]; omega
        · have a1 := beqF h45
          have a2 := bneT h45
          replace h45 := Lib.hid h45
          go_wp2_with fail
          all_goals first
            | (go_round
               case rel => exact ⟨k + 1, by omega, by go_num, Lib.hid (hgood.out (Pl.idcB_yes (by omega)))⟩
               case measure => simp [intOf]; omega)
            | (have h46 := h45.out
               go_ret
               exact ⟨ret_bool (hbad.out (Pl.idcB_no (by omega))).symm, Below.refl _ _⟩)
      · have hall : (Pl.bsl s).all Pl.idcB = true := by
          have := hu.out
          rwa [List.take_of_length_le (by rw [Pl.bsl_len]; omega)] at this
        have ha := Lib.hid (Pl.all_ascii hall)
        have E := Lib.hid (show Pl.identB (Pl.bsl s) = !Pl.leadB (Pl.bsl s) by rw [Pl.identB_lead, hall, Pl.bsl_len]; simp [h1])
        have h0 : 0 < s.size := by omega
        clear hall
        rcases Pl.lead_cases s h0 with ⟨d1, d2⟩ | ⟨d1, d3, d2⟩ | ⟨d1, d3, d4, d2⟩ | ⟨d1, d3, d4, d2⟩
        rotate_left 1
        · have t2 : ((s.size : Int) == 1) = true := beqT (by omega)
          rw [d2] at E
          clear d2
          go_wp2_with (go_at_call 71; refine (numeric_any _ _ ha.out).mono ?_; rintro e w' ⟨rfl, hb⟩)
          go_ret
          exact ⟨ret_bool E.out.symm, hb⟩
        · have t2 : ((s.size : Int) == 1) = false := beqF (by omega)
          have t3 : ((s[0].toNat : Int) != 48) = true := by rw [bne, d4]; rfl
          rw [d2] at E
          clear d2
          go_wp2_with (go_at_call 71; refine (numeric_any _ _ ha.out).mono ?_; rintro e w' ⟨rfl, hb⟩)
          go_ret
          exact ⟨ret_bool E.out.symm, hb⟩
        · have t2 : ((s.size : Int) == 1) = false := beqF (by omega)
          have t3 : ((s[0].toNat : Int) != 48) = false := by rw [bne, d4]; rfl
          rw [d2] at E
          clear d2
          go_wp2_with (go_at_call 71; refine (numeric_any _ _ ha.out).mono ?_; rintro e w' ⟨rfl, hb⟩)
          go_ret
          exact ⟨ret_bool E.out.symm, hb⟩
        all_goals
          rw [d2] at E
          clear d2
          go_wp2_with (go_at_call 71; refine (numeric_any _ _ ha.out).mono ?_; rintro e w' ⟨rfl, hb⟩)
          go_ret
          exact ⟨ret_bool E.out.symm, hb⟩
  · have E := Lib.hid (show Pl.identB (Pl.bsl s) = false by
      rw [Pl.identB_lead, Pl.bsl_len]
      by_cases h : 1 ≤ s.size
      · rw [decide_eq_false (show ¬ s.size ≤ 8 by omega)]; simp
      · rw [decide_eq_false h]; simp)
    have hc : s.size = 0 ∨ 8 < s.size := by omega
    clear h1
    rcases hc with hc | hc
    · have t1 : ((s.size : Int) == 0) = true := by simp [hc]
      clear hc
      go_enter Tryz.func47, Tryz.ntmps47
      go_wp2_with fail
      go_ret
      exact ⟨ret_bool E.out.symm, Below.refl _ _⟩
    · have t1 : ((s.size : Int) == 0) = false := beqF (by omega)
      go_enter Tryz.func47, Tryz.ntmps47
      go_wp2_with fail
      go_ret
      exact ⟨ret_bool E.out.symm, Below.refl _ _⟩
end Go.Proofs.YtgngehfgcogceaaGreatDoor

end
section
/- More plain laws: a slice of bytes turned into a string. -/
namespace Go.Proofs.YtgngehfgcogceaaGreatDoor
open Go.RowKit
/-- A slice over a new block. -/
theorem Sl.fresh {w : World} {C : List Value} {t : TypeId} {k n cap sz : Nat} (hk : k = w.heap.size) (hl : C.length = n * sz) (hcap : n ≤ cap) (hm : cap ≤ maxLen) : Sl (w.alloc (.cells C.toArray t)) (some ⟨k, 0, none⟩) n cap sz C := by
  subst hk
  exact ⟨hl, hcap, hm, .inr ⟨w.heap.size, 0, rfl, by simp, fun j u hu => by simp [hu]⟩⟩

theorem frozen_setCell {w : World} {a b : Addr} {v : Value} : (w.setCell a v).frozen? b = w.frozen? b := by
  by_cases h : b.block = a.block
  · simp only [World.frozen?, World.setCell, Array.getElem?_modify, h, if_true]
    cases w.heap[a.block]? with
    | none => rfl
    | some o => cases o <;> rfl
  · exact World.frozen?_of_block (Below.heap_setCell _ _ _ _ h)

theorem Box2.set {w : World} {r : Nat} {x y : Value} (h : Box2 w r x y) (x' y' : Value) : Box2 ((w.setCell ⟨r, 0, none⟩ x').setCell ⟨r, 1, none⟩ y') r x' y' := by
  have e1 : (w.setCell ⟨r, 0, none⟩ x').cell? ⟨r, 1, none⟩ = some y := by rw [World.cell?_setCell_other _ _ _ _ (by simp)]; exact h.c1
  have e0 : (w.setCell ⟨r, 0, none⟩ x').cell? ⟨r, 0, none⟩ = some x' := World.cell?_setCell_same _ _ _ h.c0
  refine ⟨?_, World.cell?_setCell_same _ _ _ e1, ?_, ?_, ?_⟩
  · rw [World.cell?_setCell_other _ _ _ _ (by simp)]; exact e0
  · rw [frozen_setCell, frozen_setCell]; exact h.f0
  · rw [frozen_setCell, frozen_setCell]; exact h.f1
  · simpa using h.lt

theorem Box2.drew {w : World} {r : Nat} {x y : Value} (h : Box2 w r x y) : Box2 w.drew r x y := h.below (B := w.heap.size) ((Below.refl _ _).drew) h.lt
theorem Sl.drew {w : World} {oa : Option Addr} {n cap sz : Nat} {cs : List Value} (h : Sl w oa n cap sz cs) : Sl w.drew oa n cap sz cs := h.below ((Below.refl _ _).drew) (Nat.le_refl _)

theorem Box2.other {w : World} {r r' : Nat} {x y : Value} (h : Box2 w r' x y) (hne : r ≠ r') (x' y' : Value) : Box2 ((w.setCell ⟨r, 0, none⟩ x').setCell ⟨r, 1, none⟩ y') r' x y := by
  refine ⟨?_, ?_, ?_, ?_, ?_⟩
  · rw [World.cell?_setCell_other _ _ _ _ (by simp), World.cell?_setCell_other _ _ _ _ (by simp)]; exact h.c0
  · rw [World.cell?_setCell_other _ _ _ _ (by simp), World.cell?_setCell_other _ _ _ _ (by simp)]; exact h.c1
  · rw [frozen_setCell, frozen_setCell]; exact h.f0
  · rw [frozen_setCell, frozen_setCell]; exact h.f1
  · simpa using h.lt
end Go.Proofs.YtgngehfgcogceaaGreatDoor

end
