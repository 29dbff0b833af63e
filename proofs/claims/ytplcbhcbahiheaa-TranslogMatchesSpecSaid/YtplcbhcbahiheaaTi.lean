/- Contract: the reference's check of an inclusion proof. -/
import Derived.Test.YtplcbhcbahiheaaTh
namespace Go.Proofs.Ytplcbhcbahiheaa
open Go.RowKit

namespace Pl
theorem shiftF_le : ∀ (f a b : Nat), (shiftF f a b).2 ≤ b ∧ (a ≤ b → (shiftF f a b).1 ≤ (shiftF f a b).2)
  | 0, _, _ => ⟨Nat.le_refl _, fun h => h⟩
  | f + 1, a, b => by
    rw [shiftF]
    split
    · have h := shiftF_le f (a / 2) (b / 2)
      exact ⟨Nat.le_trans h.1 (Nat.div_le_self _ _), fun h2 => h.2 (Nat.div_le_div_right h2)⟩
    · exact ⟨Nat.le_refl _, fun h => h⟩
theorem oddF_le : ∀ (f a b : Nat), (oddF f a b).2 ≤ b ∧ (a ≤ b → (oddF f a b).1 ≤ (oddF f a b).2)
  | 0, _, _ => ⟨Nat.le_refl _, fun h => h⟩
  | f + 1, a, b => by
    rw [oddF]
    split
    · have h := oddF_le f (a / 2) (b / 2)
      exact ⟨Nat.le_trans h.1 (Nat.div_le_self _ _), fun h2 => h.2 (Nat.div_le_div_right h2)⟩
    · exact ⟨Nat.le_refl _, fun h => h⟩
theorem bitsF_zero (f a : Nat) : bitsF f a 0 = [] := by cases f <;> simp [bitsF]
theorem bitsF_odd {f a b : Nat} (hb : b ≠ 0) (h : a % 2 = 1 ∨ a = b) : bitsF (f + 1) a b = false :: bitsF f ((shiftF 7 a b).1 / 2) ((shiftF 7 a b).2 / 2) := by rw [bitsF, if_neg hb, if_pos h]
theorem bitsF_even {f a b : Nat} (hb : b ≠ 0) (h : ¬ (a % 2 = 1 ∨ a = b)) : bitsF (f + 1) a b = true :: bitsF f (a / 2) (b / 2) := by rw [bitsF, if_neg hb, if_neg h]
end Pl

def IncRel (p : List Int) (root : Int) (F : Bool) (x y z u : Value) : Prop :=
  ∃ (f a b k : Nat) (r : Int), x = .int .i64 (a : Int) ∧ y = .int .i64 (b : Int) ∧ z = .int .i64 r ∧ u = .int .i64 (k : Int) ∧ k ≤ p.length ∧ a ≤ b ∧ b ≤ 63 ∧ b < 2 ^ f ∧ Pl.isDigestB r = true ∧ Hid (Pl.inclB (Pl.bitsF f a b) r (p.drop k) root = F)
def ShRel (sa sb : Nat) (x y : Value) : Prop := ∃ (g a' b' : Nat), x = .int .i64 (a' : Int) ∧ y = .int .i64 (b' : Int) ∧ g ≤ 7 ∧ a' ≤ 63 ∧ b' ≤ 63 ∧ a' < 2 ^ g ∧ Hid (Pl.shiftF g a' b' = (sa, sb))

set_option maxRecDepth 100000 in
set_option maxHeartbeats 800000 in
theorem LogIncludes_any (root leaf : Int) (n i : Nat) (p : List Int) (oa : Option Addr) (cap : Nat) (w : World) (hs : Sl w oa p.length cap 1 (intVals p)) (hp : p.length ≤ 64) (hpd : ∀ x ∈ p, Pl.isDigestB x = true) (hl : Pl.isDigestB leaf = true) (hn : n ≤ 64) (hi : i < n) :
    Calls Try.prog 28 #[.int .i64 root, .int .i64 (n : Int), .int .i64 (i : Int), .int .i64 leaf, .slice oa p.length cap] w fun e w' => e = .returned (.bool (Pl.refIncB root n i leaf p)) ∧ w = w' := by
  obtain ⟨F, hF⟩ : ∃ F, Pl.refIncB root n i leaf p = F := ⟨_, rfl⟩
  rw [hF]
  obtain ⟨m, rfl⟩ : ∃ m, n = m + 1 := ⟨n - 1, by omega⟩
  have st : Pl.inclB (Pl.bitsF 8 i m) leaf (p.drop 0) root = F := hF
  replace st := Lib.hid st
  replace hpd := Lib.hid hpd
  have e1 : ((m + 1 : Nat) : Int) - 1 = (m : Int) := by omega
  clear hF
  go_enter Try.func28, Try.ntmps28
  go_wp2
  go_loop [11, 12, 13, 14] (fun x y z u => IncRel p root F x y z u) (fun _ _ _ u => p.length - (intOf u).toNat)
  case atStart => exact ⟨8, i, m, 0, leaf, rfl, by go_num, rfl, rfl, Nat.zero_le _, by omega, by omega, by omega, hl, st⟩
  case round =>
    obtain ⟨f, a, b, k, r, rfl, rfl, rfl, rfl, hk, hab, hb63, hbf, hr, hu⟩ := hrel
    replace hr := Lib.hid hr
    by_cases hkl : k < p.length
    · rcases hs.mem with h0 | ⟨g, off, rfl, hlt, hc⟩
      · have : p = [] := by simpa [intVals] using h0
        rw [this] at hkl
        simp at hkl
      have hcell : w.cell? ⟨g, off + k, none⟩ = some (.int .i64 p[k]) := hc k _ (intVals_get p k hkl)
      have hdrop : p.drop k = p[k] :: p.drop (k + 1) := List.drop_eq_getElem_cons hkl
      have hxd := Lib.hid (hpd.out p[k] (List.getElem_mem hkl))
      have hu2 := hu.out
      rw [hdrop] at hu2
      obtain ⟨x, hx⟩ : ∃ x, p[k] = x := ⟨_, rfl⟩
      rw [hx] at hcell hxd hu2
      clear hc hx hdrop hu
      by_cases hb0 : b = 0
      · subst hb0
        rw [Pl.bitsF_zero] at hu2
        have hF : F = false := by rw [← hu2]; rfl
        replace hF := Lib.hid hF
        clear hu2 hbf hab
        go_wp2
        go_ret
        exact ⟨ret_bool hF.out.symm, rfl⟩
      · have tb : ((b : Int) == 0) = false := by rw [beq_eq_false_iff_ne]; omega
        obtain ⟨f, rfl⟩ : ∃ f', f = f' + 1 := by
          cases f with
          | zero => simp at hbf; omega
          | succ f => exact ⟨f, rfl⟩
        rw [Nat.pow_succ] at hbf
        by_cases hod : a % 2 = 1 ∨ a = b
        · rw [Pl.bitsF_odd hb0 hod] at hu2
          have hu3 : Pl.inclB (Pl.bitsF f ((Pl.shiftF 7 a b).1 / 2) ((Pl.shiftF 7 a b).2 / 2)) (Pl.pairS x r) (p.drop (k + 1)) root = F := hu2
          have sl := Pl.shiftF_le 7 a b
          have sl2 := sl.2 hab
          obtain ⟨⟨sa, sb⟩, hS⟩ : ∃ S, Pl.shiftF 7 a b = S := ⟨_, rfl⟩
          rw [hS] at hu3 sl sl2
          replace hu3 := Lib.hid hu3
          replace hS := Lib.hid hS
          have sl1 : sb ≤ b := sl.1
          have sl3 : sa ≤ sb := sl2
          clear hu2 sl sl2
          have ho : (((a : Int) % 2 == 1) = true) ∨ (((a : Int) % 2 == 1) = false ∧ ((a : Int) == (b : Int)) = true) := by
            by_cases h : a % 2 = 1
            · left; rw [beq_iff_eq]; omega
            · right; exact ⟨by rw [beq_eq_false_iff_ne]; omega, by rw [beq_iff_eq]; omega⟩
          clear hod
          rcases ho with tod | ⟨tod, te⟩
          all_goals
            go_wp2_with (go_at_call 46; refine (rpair_any _ _ _ hxd.out hr.out).mono ?_; rintro e w' ⟨rfl, rfl⟩)
            clear tod
            go_loop [11, 12] (fun x y => ShRel sa sb x y) (fun x _ => (intOf x).toNat)
            case atStart => exact ⟨7, a, b, rfl, rfl, Nat.le_refl _, by omega, by omega, by omega, hS⟩
            case round =>
              obtain ⟨g, a', b', rfl, rfl, hg, ha63, hb'63, hag, hsh⟩ := hrel
              by_cases hev : a' % 2 = 0 ∧ a' ≠ 0
              · obtain ⟨g, rfl⟩ : ∃ g', g = g' + 1 := by
                  cases g with
                  | zero => simp at hag; omega
                  | succ g => exact ⟨g, rfl⟩
                rw [Nat.pow_succ] at hag
                have hs2 : Pl.shiftF g (a' / 2) (b' / 2) = (sa, sb) := by
                  have := hsh.out
                  rw [Pl.shiftF, if_pos hev] at this
                  exact this
                replace hs2 := Lib.hid hs2
                have t1 : ((a' : Int) % 2 == 0) = true := by rw [beq_iff_eq]; omega
                have t2 : ((a' : Int) != 0) = true := by rw [bne_iff_ne]; omega
                have ha0 : 0 < a' := by omega
                clear hev hsh
                go_wp2
                go_round
                case rel => exact ⟨g, a' / 2, b' / 2, by go_num, by go_num, by omega, by omega, by omega, by omega, hs2⟩
                case measure => simp [intOf]; omega
              · have hs2 : (a', b') = (sa, sb) := by
                  have := hsh.out
                  cases g with
                  | zero => exact this
                  | succ g => rw [Pl.shiftF, if_neg hev] at this; exact this
                have hsa : a' = sa := (Prod.mk.inj hs2).1
                have hsb : b' = sb := (Prod.mk.inj hs2).2
                subst hsa
                subst hsb
                have ht : (((a' : Int) % 2 == 0) = false) ∨ (((a' : Int) % 2 == 0) = true ∧ ((a' : Int) != 0) = false) := by
                  by_cases h : a' % 2 = 0
                  · right; exact ⟨by rw [beq_iff_eq]; omega, by rw [bne_eq_false_iff_eq]; omega⟩
                  · left; rw [beq_eq_false_iff_ne]; omega
                clear hev hsh hs2
                rcases ht with t1 | ⟨t1, t2⟩
                all_goals
                  have H : IncRel p root F (.int .i64 ((a' : Int) / 2)) (.int .i64 ((b' : Int) / 2)) (.int .i64 (Pl.pairS x r)) (.int .i64 ((k : Int) + 1)) := ⟨f, a' / 2, b' / 2, k + 1, Pl.pairS x r, by go_num, by go_num, rfl, by go_num, hkl, by omega, by omega, by omega, Pl.pairS_digest _ _, hu3⟩
                  replace H := Lib.hid H
                  go_wp2
                  go_round
                  case rel => first | exact H.out | exact ⟨_, _, _, _, H.out, rfl, rfl, rfl, rfl⟩ | exact ⟨_, _, _, _, _, H.out, rfl, rfl, rfl, rfl, rfl⟩
                  case measure => simp [intOf]; omega
        · rw [Pl.bitsF_even hb0 hod] at hu2
          have hu3 : Pl.inclB (Pl.bitsF f (a / 2) (b / 2)) (Pl.pairS r x) (p.drop (k + 1)) root = F := hu2
          replace hu3 := Lib.hid hu3
          have tod : ((a : Int) % 2 == 1) = false := by rw [beq_eq_false_iff_ne]; omega
          have te : ((a : Int) == (b : Int)) = false := by rw [beq_eq_false_iff_ne]; omega
          clear hu2 hod
          have H : IncRel p root F (.int .i64 ((a : Int) / 2)) (.int .i64 ((b : Int) / 2)) (.int .i64 (Pl.pairS r x)) (.int .i64 ((k : Int) + 1)) := ⟨f, a / 2, b / 2, k + 1, Pl.pairS r x, by go_num, by go_num, rfl, by go_num, hkl, by omega, by omega, by omega, Pl.pairS_digest _ _, hu3⟩
          replace H := Lib.hid H
          go_wp2_with (go_at_call 46; refine (rpair_any _ _ _ hr.out hxd.out).mono ?_; rintro e w' ⟨rfl, rfl⟩)
          go_round
          case rel => first | exact H.out | exact ⟨_, _, _, _, H.out, rfl, rfl, rfl, rfl⟩ | exact ⟨_, _, _, _, _, H.out, rfl, rfl, rfl, rfl, rfl⟩ | (refine ⟨trivial, ?_⟩; (repeat apply Exists.intro); exact ⟨H.out, rfl⟩)
          case measure => simp [intOf]; omega
    · obtain rfl : k = p.length := by omega
      have hu2 := hu.out
      rw [List.drop_length] at hu2
      by_cases hb0 : b = 0
      · subst hb0
        rw [Pl.bitsF_zero] at hu2
        have hF : (r == root) = F := hu2
        clear hu2 hbf hab hu
        replace hF := Lib.hid hF
        go_wp2
        go_ret
        exact ⟨ret_bool hF.out, rfl⟩
      · have tb : ((b : Int) == 0) = false := by rw [beq_eq_false_iff_ne]; omega
        obtain ⟨f, rfl⟩ : ∃ f', f = f' + 1 := by
          cases f with
          | zero => simp at hbf; omega
          | succ f => exact ⟨f, rfl⟩
        have hF : F = false := by
          rw [← hu2]
          by_cases hod : a % 2 = 1 ∨ a = b
          · rw [Pl.bitsF_odd hb0 hod]; rfl
          · rw [Pl.bitsF_even hb0 hod]; rfl
        replace hF := Lib.hid hF
        clear hu2 hu
        go_wp2
        go_ret
        exact ⟨ret_bool hF.out.symm, rfl⟩
end Go.Proofs.Ytplcbhcbahiheaa
