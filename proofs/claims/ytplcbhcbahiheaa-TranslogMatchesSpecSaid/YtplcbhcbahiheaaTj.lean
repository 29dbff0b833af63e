/- Contract: the reference's check of a consistency proof. -/
import Derived.Test.YtplcbhcbahiheaaTi
namespace Go.Proofs.Ytplcbhcbahiheaa
open Go.RowKit

theorem Pl.splitN_le0 : ∀ n : Fin 65, Pl.splitN n.val ≤ 64 := by decide +kernel
theorem Pl.splitN_le {n : Nat} (h : n ≤ 64) : Pl.splitN n ≤ 64 := Pl.splitN_le0 ⟨n, by omega⟩
theorem own_cons {W : World} {B n : Nat} {e : TypeId} {v x : Value} {q : List Int} (hown : W.ownsRow B e 1 v n (intVals q)) (hn : q.length = n) (h0 : (intVals q)[0]? = some x) :
    ∃ g0 off0 cb, v = .slice (some ⟨g0, off0, none⟩) q.length cb ∧ g0 < W.heap.size ∧ Hid (∀ j u, (intVals q)[j]? = some u → W.cell? ⟨g0, off0 + j, none⟩ = some u) ∧ W.cell? ⟨g0, off0, none⟩ = some x := by
  subst hn
  obtain ⟨ob, cb, rfl⟩ := own_slice hown
  have hsq := Sl.own hown
  rcases hsq.mem with h | ⟨g0, off0, rfl, h2, h3⟩
  · rw [h] at h0; simp at h0
  · exact ⟨g0, off0, cb, rfl, h2, h3, h3 0 _ h0⟩
def ExtRel (q : List Int) (old root : Int) (F : Bool) (x y z t u : Value) : Prop :=
  ∃ (f a b k : Nat) (r s : Int), x = .int .i64 (a : Int) ∧ y = .int .i64 (b : Int) ∧ z = .int .i64 r ∧ t = .int .i64 s ∧ u = .int .i64 (k : Int) ∧ k ≤ q.length ∧ a ≤ b ∧ b ≤ 63 ∧ b < 2 ^ f ∧ Pl.isDigestB r = true ∧ Pl.isDigestB s = true ∧ Hid (Pl.extB (Pl.bitsF f a b) r s (q.drop k) old root = F)
def OddRel (sa sb : Nat) (x y : Value) : Prop := ∃ (g a' b' : Nat), x = .int .i64 (a' : Int) ∧ y = .int .i64 (b' : Int) ∧ g ≤ 7 ∧ a' ≤ 63 ∧ b' ≤ 63 ∧ a' < 2 ^ g ∧ Hid (Pl.oddF g a' b' = (sa, sb))

set_option maxRecDepth 100000 in
set_option maxHeartbeats 1600000 in
theorem LogExtends_any (old root : Int) (m n : Nat) (p : List Int) (oa : Option Addr) (cap : Nat) (w : World) (hs : Sl w oa p.length cap 1 (intVals p)) (hp : p.length ≤ 64) (hpd : ∀ x ∈ p, Pl.isDigestB x = true) (hl : Pl.isDigestB old = true) (hn : n + 1 ≤ 64) (hm : m ≤ n) :
    Calls Try.prog 30 #[.int .i64 old, .int .i64 ((m + 1 : Nat) : Int), .int .i64 root, .int .i64 ((n + 1 : Nat) : Int), .slice oa p.length cap] w fun e w' => e = .returned (.bool (Pl.refExtB old (m + 1) root (n + 1) p)) ∧ Below w.heap.size w w' := by
  obtain ⟨F, hF⟩ : ∃ F, Pl.refExtB old (m + 1) root (n + 1) p = F := ⟨_, rfl⟩
  rw [hF]
  unfold Pl.refExtB at hF
  by_cases hmn : m = n
  · subst hmn
    rw [if_pos rfl] at hF
    replace hF := Lib.hid hF
    by_cases h0 : p.length = 0
    · have hp0 : p = [] := List.eq_nil_of_length_eq_zero h0
      subst hp0
      clear h0
      go_enter Try.func30, Try.ntmps30
      go_wp2
      go_ret
      exact ⟨ret_bool (by rw [← hF.out]; simp), Below.refl _ _⟩
    · have t : ((p.length : Int) == 0) = false := by rw [beq_eq_false_iff_ne]; omega
      have e : p.isEmpty = false := by cases p with | nil => simp at h0 | cons x p => rfl
      replace e := Lib.hid e
      clear h0
      go_enter Try.func30, Try.ntmps30
      go_wp2
      go_ret
      exact ⟨ret_bool (by rw [← hF.out, e.out]; rfl), Below.refl _ _⟩
  · rw [if_neg (by omega)] at hF
    simp only [Nat.add_sub_cancel] at hF
    have od := Pl.oddF_le 7 m n
    have od2 := od.2 hm
    obtain ⟨⟨sa, sb⟩, hodd⟩ : ∃ S, Pl.oddF 7 m n = S := ⟨_, rfl⟩
    rw [hodd] at hF od od2
    replace hodd := Lib.hid hodd
    have od1 : sb ≤ n := od.1
    have od3 : sa ≤ sb := od2
    clear od od2
    have t0 : (((m + 1 : Nat) : Int) == ((n + 1 : Nat) : Int)) = false := by rw [beq_eq_false_iff_ne]; omega
    have hsl := Pl.splitN_lt (n := m + 1)
    replace hpd := Lib.hid hpd
    unfold Pl.refStart at hF
    by_cases hk : 2 * Pl.splitN (m + 1) = m + 1 ∨ m + 1 = 1
    · rw [if_pos hk] at hF
      have hF : Pl.extB (Pl.bitsF 8 sa sb) old old p old root = F := hF
      have hop : (∀ u ∈ intVals p, u.oneCell' = true) := intVals_one p
      obtain ⟨q, hq⟩ : ∃ q, old :: p = q := ⟨_, rfl⟩
      have st : Pl.extB (Pl.bitsF 8 sa sb) old old (q.drop 1) old root = F := by rw [← hq]; exact hF
      have hql : q.length = 1 + p.length := by rw [← hq]; simp; omega
      have hqd : ∀ x ∈ q, Pl.isDigestB x = true := by
        rw [← hq]
        intro x hx
        rcases List.mem_cons.1 hx with rfl | hx
        · exact hl
        · exact hpd.out x hx
      have hx0 := Lib.hid hl
      have hqc : [Value.int .i64 old] ++ intVals p = intVals q := by rw [← hq]; rfl
      have hqc0 : (intVals q)[0]? = some (.int .i64 old) := by rw [← hq]; rfl
      have hq1 : 1 ≤ q.length := by omega
      have hq65 : q.length ≤ 65 := by omega
      replace hqd := Lib.hid hqd
      replace st := Lib.hid st
      replace hqc := Lib.hid hqc
      replace hqc0 := Lib.hid hqc0
      have hql' := Lib.hid hql
      replace hop := Lib.hid hop
      clear hF hl hpd hq hql
      obtain ⟨P, hPe⟩ : ∃ P, Pl.splitN (m + 1) = P := ⟨_, rfl⟩
      rw [hPe] at hk hsl
      have hPb : P ≤ 64 := by rw [← hPe]; exact Pl.splitN_le (by omega)
      replace hPe := Lib.hid hPe
      have uu : (2 * (P : Int) == (m : Int) + 1) = true ∨ ((2 * (P : Int) == (m : Int) + 1) = false ∧ m = 0) := by
        rcases hk with h | h
        · left; rw [beq_iff_eq]; omega
        · by_cases h2 : 2 * P = m + 1
          · left; rw [beq_iff_eq]; omega
          · right; exact ⟨by rw [beq_eq_false_iff_ne]; omega, by omega⟩
      have u0 : ((m : Int) + 1 == (n : Int) + 1) = false := by rw [beq_eq_false_iff_ne]; omega
      clear hk hsl hmn
      rcases uu with u2 | ⟨u2, rfl⟩
      · have e1 : ((m + 1 : Nat) : Int) - 1 = (m : Int) := by omega
        have e2 : ((n + 1 : Nat) : Int) - 1 = (n : Int) := by omega
        go_enter Try.func30, Try.ntmps30
        go_wp2_with fail
        refine (Power_any (m + 1) _ (by omega)).mono ?_
        rintro e w' ⟨rfl, rfl⟩
        rw [hPe.out]
        go_wp2_with (at_builtin; refine ap (by rfl) (by rfl) Try.tInts ((Below.refl _ w).alloc (Nat.le_refl _) (.cells #[.int .i64 old] 3)) (by rfl) (ownsRow_lit (w := w) (C := [.int .i64 old]) rfl (Nat.le_refl _) (by simp [maxLen])) (m := p.length) (Src.ofSl Try.tInts.ht (hs.below ((Below.refl _ _).alloc (Nat.le_refl _) _) (Nat.le_refl _)) (by decide) hop.out) (by omega) (by simp) ?_; intro v1 W hown B1 hsz1; obtain ⟨g0, off0, cb, rfl, hg0, hcq, c00⟩ := own_cons (q := q) (x := .int .i64 old) (hqc.out ▸ hown) hql'.out hqc0.out; clear hown)
        go_loop [12, 13] (fun x y => OddRel sa sb x y) (fun x _ => (intOf x).toNat)
        case atStart => exact ⟨7, m, n, by go_num, by go_num, Nat.le_refl _, by omega, by omega, by omega, hodd⟩
        case round =>
          obtain ⟨g, a', b', rfl, rfl, hg, ha63, hb'63, hag, hsh⟩ := hrel
          by_cases hev : a' % 2 = 1
          · obtain ⟨g, rfl⟩ : ∃ g', g = g' + 1 := by
              cases g with
              | zero => simp at hag; omega
              | succ g => exact ⟨g, rfl⟩
            rw [Nat.pow_succ] at hag
            have hs2 : Pl.oddF g (a' / 2) (b' / 2) = (sa, sb) := by
              have := hsh.out
              rw [Pl.oddF, if_pos hev] at this
              exact this
            replace hs2 := Lib.hid hs2
            have t1 : ((a' : Int) % 2 == 1) = true := by rw [beq_iff_eq]; omega
            have ha0 : 0 < a' := by omega
            clear hev hsh
            go_wp2
            go_round
            case rel => exact ⟨g, a' / 2, b' / 2, by go_num, by go_num, by omega, by omega, by omega, by omega, hs2⟩
            case measure => simp [intOf]; omega
          · have hs2 : (a', b') = (sa, sb) := by
              have := hsh.out
              cases g with
              | zero => exact this
              | succ g => rw [Pl.oddF, if_neg hev] at this; exact this
            have hsa : a' = sa := (Prod.mk.inj hs2).1
            have hsb : b' = sb := (Prod.mk.inj hs2).2
            subst hsa
            subst hsb
            have t1 : ((a' : Int) % 2 == 1) = false := by rw [beq_eq_false_iff_ne]; omega
            clear hev hsh hs2
            go_wp2_with fail
            go_loop [12, 13, 14, 15, 16] (fun x y z t u => ExtRel q old root F x y z t u) (fun _ _ _ _ u => q.length - (intOf u).toNat)
            case atStart => exact ⟨8, a', b', 1, old, old, rfl, rfl, rfl, rfl, rfl, by omega, by omega, by omega, by omega, hx0.out, hx0.out, st⟩
            case round =>
              obtain ⟨f, a, b, k, x, y, rfl, rfl, rfl, rfl, rfl, hk, hab, hb63, hbf, hx, hy, hu⟩ := hrel
              replace hx := Lib.hid hx
              replace hy := Lib.hid hy
              by_cases hkl : k < q.length
              · have hcell : W.cell? ⟨g0, off0 + k, none⟩ = some (.int .i64 q[k]) := hcq.out k _ (intVals_get q k hkl)
                have hdrop : q.drop k = q[k] :: q.drop (k + 1) := List.drop_eq_getElem_cons hkl
                have hzd := Lib.hid (hqd.out q[k] (List.getElem_mem hkl))
                have hu2 := hu.out
                rw [hdrop] at hu2
                obtain ⟨z, hz⟩ : ∃ z, q[k] = z := ⟨_, rfl⟩
                rw [hz] at hcell hzd hu2
                clear hz hdrop hu
                by_cases hb0 : b = 0
                · subst hb0
                  rw [Pl.bitsF_zero] at hu2
                  have hF : F = false := by rw [← hu2]; rfl
                  replace hF := Lib.hid hF
                  clear hu2 hbf hab
                  go_wp2
                  go_ret
                  exact ⟨ret_bool hF.out.symm, B1⟩
                · have tb : ((b : Int) == 0) = false := by rw [beq_eq_false_iff_ne]; omega
                  obtain ⟨f, rfl⟩ : ∃ f', f = f' + 1 := by
                    cases f with
                    | zero => simp at hbf; omega
                    | succ f => exact ⟨f, rfl⟩
                  rw [Nat.pow_succ] at hbf
                  by_cases hod : a % 2 = 1 ∨ a = b
                  · rw [Pl.bitsF_odd hb0 hod] at hu2
                    have hu3 : Pl.extB (Pl.bitsF f ((Pl.shiftF 7 a b).1 / 2) ((Pl.shiftF 7 a b).2 / 2)) (Pl.pairS z x) (Pl.pairS z y) (q.drop (k + 1)) old root = F := hu2
                    have sl := Pl.shiftF_le 7 a b
                    have sl2 := sl.2 hab
                    obtain ⟨⟨ta, tb'⟩, hS⟩ : ∃ S, Pl.shiftF 7 a b = S := ⟨_, rfl⟩
                    rw [hS] at hu3 sl sl2
                    replace hu3 := Lib.hid hu3
                    replace hS := Lib.hid hS
                    have sl1 : tb' ≤ b := sl.1
                    have sl3 : ta ≤ tb' := sl2
                    clear hu2 sl sl2
                    have ho : (((a : Int) % 2 == 1) = true) ∨ (((a : Int) % 2 == 1) = false ∧ ((a : Int) == (b : Int)) = true) := by
                      by_cases h : a % 2 = 1
                      · left; rw [beq_iff_eq]; omega
                      · right; exact ⟨by rw [beq_eq_false_iff_ne]; omega, by rw [beq_iff_eq]; omega⟩
                    clear hod
                    rcases ho with tod | ⟨tod, te⟩
                    all_goals
                      go_wp2_with fail
                      refine (rpair_any _ _ _ hzd.out hx.out).mono ?_
                      rintro e w' ⟨rfl, rfl⟩
                      go_wp2_with fail
                      refine (rpair_any _ _ _ hzd.out hy.out).mono ?_
                      rintro e w' ⟨rfl, rfl⟩
                      go_wp2_with fail
                      clear tod
                      go_loop [12, 13] (fun x y => ShRel ta tb' x y) (fun x _ => (intOf x).toNat)
                      case atStart => exact ⟨7, a, b, rfl, rfl, Nat.le_refl _, by omega, by omega, by omega, hS⟩
                      case round =>
                        obtain ⟨g, a', b', rfl, rfl, hg, ha63, hb'63, hag, hsh⟩ := hrel
                        by_cases hev : a' % 2 = 0 ∧ a' ≠ 0
                        · obtain ⟨g, rfl⟩ : ∃ g', g = g' + 1 := by
                            cases g with
                            | zero => simp at hag; omega
                            | succ g => exact ⟨g, rfl⟩
                          rw [Nat.pow_succ] at hag
                          have hs2 : Pl.shiftF g (a' / 2) (b' / 2) = (ta, tb') := by
                            have := hsh.out
                            rw [Pl.shiftF, if_pos hev] at this
                            exact this
                          replace hs2 := Lib.hid hs2
                          have t1 : ((a' : Int) % 2 == 0) = true := by rw [beq_iff_eq]; omega
                          have t2 : ((a' : Int) != 0) = true := by rw [bne_iff_ne]; omega
                          have ha0 : 0 < a' := by omega
                          clear hev hsh
                          go_wp2
                          go_round
                          case rel => exact ⟨g, a' / 2, b' / 2, by go_num, by go_num, by omega, by omega, by omega, by omega, hs2⟩
                          case measure => simp [intOf]; omega
                        · have hs2 : (a', b') = (ta, tb') := by
                            have := hsh.out
                            cases g with
                            | zero => exact this
                            | succ g => rw [Pl.shiftF, if_neg hev] at this; exact this
                          have hsa : a' = ta := (Prod.mk.inj hs2).1
                          have hsb : b' = tb' := (Prod.mk.inj hs2).2
                          subst hsa
                          subst hsb
                          have ht : (((a' : Int) % 2 == 0) = false) ∨ (((a' : Int) % 2 == 0) = true ∧ ((a' : Int) != 0) = false) := by
                            by_cases h : a' % 2 = 0
                            · right; exact ⟨by rw [beq_iff_eq]; omega, by rw [bne_eq_false_iff_eq]; omega⟩
                            · left; rw [beq_eq_false_iff_ne]; omega
                          clear hev hsh hs2
                          rcases ht with t1 | ⟨t1, t2⟩
                          all_goals
                            have H : ExtRel q old root F (.int .i64 ((a' : Int) / 2)) (.int .i64 ((b' : Int) / 2)) (.int .i64 (Pl.pairS z x)) (.int .i64 (Pl.pairS z y)) (.int .i64 ((k : Int) + 1)) := ⟨f, a' / 2, b' / 2, k + 1, _, _, by go_num, by go_num, rfl, rfl, by go_num, by omega, by omega, by omega, by omega, Pl.pairS_digest _ _, Pl.pairS_digest _ _, hu3⟩
                            replace H := Lib.hid H
                            go_wp2
                            go_round
                            case rel => first | exact H.out | exact ⟨_, _, _, _, _, H.out, rfl, rfl, rfl, rfl, rfl⟩ | exact ⟨_, _, _, _, _, _, H.out, rfl, rfl, rfl, rfl, rfl, rfl⟩ | ((repeat apply Exists.intro); exact ⟨H.out, rfl⟩) | (refine ⟨trivial, ?_⟩; (repeat apply Exists.intro); exact ⟨H.out, rfl⟩)
                            case measure => simp [intOf]; omega
                  · rw [Pl.bitsF_even hb0 hod] at hu2
                    have hu3 : Pl.extB (Pl.bitsF f (a / 2) (b / 2)) x (Pl.pairS y z) (q.drop (k + 1)) old root = F := hu2
                    replace hu3 := Lib.hid hu3
                    have tod : ((a : Int) % 2 == 1) = false := by rw [beq_eq_false_iff_ne]; omega
                    have te : ((a : Int) == (b : Int)) = false := by rw [beq_eq_false_iff_ne]; omega
                    have H : ExtRel q old root F (.int .i64 ((a : Int) / 2)) (.int .i64 ((b : Int) / 2)) (.int .i64 x) (.int .i64 (Pl.pairS y z)) (.int .i64 ((k : Int) + 1)) := ⟨f, a / 2, b / 2, k + 1, _, _, by go_num, by go_num, rfl, rfl, by go_num, by omega, by omega, by omega, by omega, hx.out, Pl.pairS_digest _ _, hu3⟩
                    replace H := Lib.hid H
                    clear hu2 hod
                    go_wp2_with fail
                    refine (rpair_any _ _ _ hy.out hzd.out).mono ?_
                    rintro e w' ⟨rfl, rfl⟩
                    go_wp2_with fail
                    go_round
                    case rel => first | exact H.out | exact ⟨_, _, _, _, _, H.out, rfl, rfl, rfl, rfl, rfl⟩ | exact ⟨_, _, _, _, _, _, H.out, rfl, rfl, rfl, rfl, rfl, rfl⟩ | ((repeat apply Exists.intro); exact ⟨H.out, rfl⟩) | (refine ⟨trivial, ?_⟩; (repeat apply Exists.intro); exact ⟨H.out, rfl⟩)
                    case measure => simp [intOf]; omega
              · obtain rfl : k = q.length := by omega
                have hu2 := hu.out
                rw [List.drop_length] at hu2
                by_cases hb0 : b = 0
                · subst hb0
                  rw [Pl.bitsF_zero] at hu2
                  have hF : (x == old && y == root) = F := hu2
                  replace hF := Lib.hid hF
                  clear hu2 hbf hab hu
                  cases hxo : (x == old)
                  all_goals
                    go_wp2
                    go_ret
                    exact ⟨ret_bool (by rw [← hF.out, hxo]; rfl), B1⟩
                · have tb : ((b : Int) == 0) = false := by rw [beq_eq_false_iff_ne]; omega
                  obtain ⟨f, rfl⟩ : ∃ f', f = f' + 1 := by
                    cases f with
                    | zero => simp at hbf; omega
                    | succ f => exact ⟨f, rfl⟩
                  have hF : F = false := by
                    rw [← hu2]
                    by_cases hod : a % 2 = 1 ∨ a = b
                    · rw [Pl.bitsF_odd hb0 hod]; rfl
                    · rw [Pl.bitsF_even hb0 hod]; rfl
                  replace hF := Lib.hid hF
                  clear hu2 hu
                  go_wp2
                  go_ret
                  exact ⟨ret_bool hF.out.symm, B1⟩
      · have e1 : ((0 + 1 : Nat) : Int) - 1 = ((0 : Nat) : Int) := by omega
        have e2 : ((n + 1 : Nat) : Int) - 1 = (n : Int) := by omega
        go_enter Try.func30, Try.ntmps30
        go_wp2_with fail
        refine (Power_any (0 + 1) _ (by omega)).mono ?_
        rintro e w' ⟨rfl, rfl⟩
        rw [hPe.out]
        go_wp2_with (at_builtin; refine ap (by rfl) (by rfl) Try.tInts ((Below.refl _ w).alloc (Nat.le_refl _) (.cells #[.int .i64 old] 3)) (by rfl) (ownsRow_lit (w := w) (C := [.int .i64 old]) rfl (Nat.le_refl _) (by simp [maxLen])) (m := p.length) (Src.ofSl Try.tInts.ht (hs.below ((Below.refl _ _).alloc (Nat.le_refl _) _) (Nat.le_refl _)) (by decide) hop.out) (by omega) (by simp) ?_; intro v1 W hown B1 hsz1; obtain ⟨g0, off0, cb, rfl, hg0, hcq, c00⟩ := own_cons (q := q) (x := .int .i64 old) (hqc.out ▸ hown) hql'.out hqc0.out; clear hown)
        go_loop [12, 13] (fun x y => OddRel sa sb x y) (fun x _ => (intOf x).toNat)
        case atStart => exact ⟨7, 0, n, by go_num, by go_num, Nat.le_refl _, by omega, by omega, by omega, hodd⟩
        case round =>
          obtain ⟨g, a', b', rfl, rfl, hg, ha63, hb'63, hag, hsh⟩ := hrel
          by_cases hev : a' % 2 = 1
          · obtain ⟨g, rfl⟩ : ∃ g', g = g' + 1 := by
              cases g with
              | zero => simp at hag; omega
              | succ g => exact ⟨g, rfl⟩
            rw [Nat.pow_succ] at hag
            have hs2 : Pl.oddF g (a' / 2) (b' / 2) = (sa, sb) := by
              have := hsh.out
              rw [Pl.oddF, if_pos hev] at this
              exact this
            replace hs2 := Lib.hid hs2
            have t1 : ((a' : Int) % 2 == 1) = true := by rw [beq_iff_eq]; omega
            have ha0 : 0 < a' := by omega
            clear hev hsh
            go_wp2
            go_round
            case rel => exact ⟨g, a' / 2, b' / 2, by go_num, by go_num, by omega, by omega, by omega, by omega, hs2⟩
            case measure => simp [intOf]; omega
          · have hs2 : (a', b') = (sa, sb) := by
              have := hsh.out
              cases g with
              | zero => exact this
              | succ g => rw [Pl.oddF, if_neg hev] at this; exact this
            have hsa : a' = sa := (Prod.mk.inj hs2).1
            have hsb : b' = sb := (Prod.mk.inj hs2).2
            subst hsa
            subst hsb
            have t1 : ((a' : Int) % 2 == 1) = false := by rw [beq_eq_false_iff_ne]; omega
            clear hev hsh hs2
            go_wp2_with fail
            go_loop [12, 13, 14, 15, 16] (fun x y z t u => ExtRel q old root F x y z t u) (fun _ _ _ _ u => q.length - (intOf u).toNat)
            case atStart => exact ⟨8, a', b', 1, old, old, rfl, rfl, rfl, rfl, rfl, by omega, by omega, by omega, by omega, hx0.out, hx0.out, st⟩
            case round =>
              obtain ⟨f, a, b, k, x, y, rfl, rfl, rfl, rfl, rfl, hk, hab, hb63, hbf, hx, hy, hu⟩ := hrel
              replace hx := Lib.hid hx
              replace hy := Lib.hid hy
              by_cases hkl : k < q.length
              · have hcell : W.cell? ⟨g0, off0 + k, none⟩ = some (.int .i64 q[k]) := hcq.out k _ (intVals_get q k hkl)
                have hdrop : q.drop k = q[k] :: q.drop (k + 1) := List.drop_eq_getElem_cons hkl
                have hzd := Lib.hid (hqd.out q[k] (List.getElem_mem hkl))
                have hu2 := hu.out
                rw [hdrop] at hu2
                obtain ⟨z, hz⟩ : ∃ z, q[k] = z := ⟨_, rfl⟩
                rw [hz] at hcell hzd hu2
                clear hz hdrop hu
                by_cases hb0 : b = 0
                · subst hb0
                  rw [Pl.bitsF_zero] at hu2
                  have hF : F = false := by rw [← hu2]; rfl
                  replace hF := Lib.hid hF
                  clear hu2 hbf hab
                  go_wp2
                  go_ret
                  exact ⟨ret_bool hF.out.symm, B1⟩
                · have tb : ((b : Int) == 0) = false := by rw [beq_eq_false_iff_ne]; omega
                  obtain ⟨f, rfl⟩ : ∃ f', f = f' + 1 := by
                    cases f with
                    | zero => simp at hbf; omega
                    | succ f => exact ⟨f, rfl⟩
                  rw [Nat.pow_succ] at hbf
                  by_cases hod : a % 2 = 1 ∨ a = b
                  · rw [Pl.bitsF_odd hb0 hod] at hu2
                    have hu3 : Pl.extB (Pl.bitsF f ((Pl.shiftF 7 a b).1 / 2) ((Pl.shiftF 7 a b).2 / 2)) (Pl.pairS z x) (Pl.pairS z y) (q.drop (k + 1)) old root = F := hu2
                    have sl := Pl.shiftF_le 7 a b
                    have sl2 := sl.2 hab
                    obtain ⟨⟨ta, tb'⟩, hS⟩ : ∃ S, Pl.shiftF 7 a b = S := ⟨_, rfl⟩
                    rw [hS] at hu3 sl sl2
                    replace hu3 := Lib.hid hu3
                    replace hS := Lib.hid hS
                    have sl1 : tb' ≤ b := sl.1
                    have sl3 : ta ≤ tb' := sl2
                    clear hu2 sl sl2
                    have ho : (((a : Int) % 2 == 1) = true) ∨ (((a : Int) % 2 == 1) = false ∧ ((a : Int) == (b : Int)) = true) := by
                      by_cases h : a % 2 = 1
                      · left; rw [beq_iff_eq]; omega
                      · right; exact ⟨by rw [beq_eq_false_iff_ne]; omega, by rw [beq_iff_eq]; omega⟩
                    clear hod
                    rcases ho with tod | ⟨tod, te⟩
                    all_goals
                      go_wp2_with fail
                      refine (rpair_any _ _ _ hzd.out hx.out).mono ?_
                      rintro e w' ⟨rfl, rfl⟩
                      go_wp2_with fail
                      refine (rpair_any _ _ _ hzd.out hy.out).mono ?_
                      rintro e w' ⟨rfl, rfl⟩
                      go_wp2_with fail
                      clear tod
                      go_loop [12, 13] (fun x y => ShRel ta tb' x y) (fun x _ => (intOf x).toNat)
                      case atStart => exact ⟨7, a, b, rfl, rfl, Nat.le_refl _, by omega, by omega, by omega, hS⟩
                      case round =>
                        obtain ⟨g, a', b', rfl, rfl, hg, ha63, hb'63, hag, hsh⟩ := hrel
                        by_cases hev : a' % 2 = 0 ∧ a' ≠ 0
                        · obtain ⟨g, rfl⟩ : ∃ g', g = g' + 1 := by
                            cases g with
                            | zero => simp at hag; omega
                            | succ g => exact ⟨g, rfl⟩
                          rw [Nat.pow_succ] at hag
                          have hs2 : Pl.shiftF g (a' / 2) (b' / 2) = (ta, tb') := by
                            have := hsh.out
                            rw [Pl.shiftF, if_pos hev] at this
                            exact this
                          replace hs2 := Lib.hid hs2
                          have t1 : ((a' : Int) % 2 == 0) = true := by rw [beq_iff_eq]; omega
                          have t2 : ((a' : Int) != 0) = true := by rw [bne_iff_ne]; omega
                          have ha0 : 0 < a' := by omega
                          clear hev hsh
                          go_wp2
                          go_round
                          case rel => exact ⟨g, a' / 2, b' / 2, by go_num, by go_num, by omega, by omega, by omega, by omega, hs2⟩
                          case measure => simp [intOf]; omega
                        · have hs2 : (a', b') = (ta, tb') := by
                            have := hsh.out
                            cases g with
                            | zero => exact this
                            | succ g => rw [Pl.shiftF, if_neg hev] at this; exact this
                          have hsa : a' = ta := (Prod.mk.inj hs2).1
                          have hsb : b' = tb' := (Prod.mk.inj hs2).2
                          subst hsa
                          subst hsb
                          have ht : (((a' : Int) % 2 == 0) = false) ∨ (((a' : Int) % 2 == 0) = true ∧ ((a' : Int) != 0) = false) := by
                            by_cases h : a' % 2 = 0
                            · right; exact ⟨by rw [beq_iff_eq]; omega, by rw [bne_eq_false_iff_eq]; omega⟩
                            · left; rw [beq_eq_false_iff_ne]; omega
                          clear hev hsh hs2
                          rcases ht with t1 | ⟨t1, t2⟩
                          all_goals
                            have H : ExtRel q old root F (.int .i64 ((a' : Int) / 2)) (.int .i64 ((b' : Int) / 2)) (.int .i64 (Pl.pairS z x)) (.int .i64 (Pl.pairS z y)) (.int .i64 ((k : Int) + 1)) := ⟨f, a' / 2, b' / 2, k + 1, _, _, by go_num, by go_num, rfl, rfl, by go_num, by omega, by omega, by omega, by omega, Pl.pairS_digest _ _, Pl.pairS_digest _ _, hu3⟩
                            replace H := Lib.hid H
                            go_wp2
                            go_round
                            case rel => first | exact H.out | exact ⟨_, _, _, _, _, H.out, rfl, rfl, rfl, rfl, rfl⟩ | exact ⟨_, _, _, _, _, _, H.out, rfl, rfl, rfl, rfl, rfl, rfl⟩ | ((repeat apply Exists.intro); exact ⟨H.out, rfl⟩) | (refine ⟨trivial, ?_⟩; (repeat apply Exists.intro); exact ⟨H.out, rfl⟩)
                            case measure => simp [intOf]; omega
                  · rw [Pl.bitsF_even hb0 hod] at hu2
                    have hu3 : Pl.extB (Pl.bitsF f (a / 2) (b / 2)) x (Pl.pairS y z) (q.drop (k + 1)) old root = F := hu2
                    replace hu3 := Lib.hid hu3
                    have tod : ((a : Int) % 2 == 1) = false := by rw [beq_eq_false_iff_ne]; omega
                    have te : ((a : Int) == (b : Int)) = false := by rw [beq_eq_false_iff_ne]; omega
                    have H : ExtRel q old root F (.int .i64 ((a : Int) / 2)) (.int .i64 ((b : Int) / 2)) (.int .i64 x) (.int .i64 (Pl.pairS y z)) (.int .i64 ((k : Int) + 1)) := ⟨f, a / 2, b / 2, k + 1, _, _, by go_num, by go_num, rfl, rfl, by go_num, by omega, by omega, by omega, by omega, hx.out, Pl.pairS_digest _ _, hu3⟩
                    replace H := Lib.hid H
                    clear hu2 hod
                    go_wp2_with fail
                    refine (rpair_any _ _ _ hy.out hzd.out).mono ?_
                    rintro e w' ⟨rfl, rfl⟩
                    go_wp2_with fail
                    go_round
                    case rel => first | exact H.out | exact ⟨_, _, _, _, _, H.out, rfl, rfl, rfl, rfl, rfl⟩ | exact ⟨_, _, _, _, _, _, H.out, rfl, rfl, rfl, rfl, rfl, rfl⟩ | ((repeat apply Exists.intro); exact ⟨H.out, rfl⟩) | (refine ⟨trivial, ?_⟩; (repeat apply Exists.intro); exact ⟨H.out, rfl⟩)
                    case measure => simp [intOf]; omega
              · obtain rfl : k = q.length := by omega
                have hu2 := hu.out
                rw [List.drop_length] at hu2
                by_cases hb0 : b = 0
                · subst hb0
                  rw [Pl.bitsF_zero] at hu2
                  have hF : (x == old && y == root) = F := hu2
                  replace hF := Lib.hid hF
                  clear hu2 hbf hab hu
                  cases hxo : (x == old)
                  all_goals
                    go_wp2
                    go_ret
                    exact ⟨ret_bool (by rw [← hF.out, hxo]; rfl), B1⟩
                · have tb : ((b : Int) == 0) = false := by rw [beq_eq_false_iff_ne]; omega
                  obtain ⟨f, rfl⟩ : ∃ f', f = f' + 1 := by
                    cases f with
                    | zero => simp at hbf; omega
                    | succ f => exact ⟨f, rfl⟩
                  have hF : F = false := by
                    rw [← hu2]
                    by_cases hod : a % 2 = 1 ∨ a = b
                    · rw [Pl.bitsF_odd hb0 hod]; rfl
                    · rw [Pl.bitsF_even hb0 hod]; rfl
                  replace hF := Lib.hid hF
                  clear hu2 hu
                  go_wp2
                  go_ret
                  exact ⟨ret_bool hF.out.symm, B1⟩
    · rw [if_neg hk] at hF
      cases p with
      | nil =>
        replace hF : F = false := hF.symm
        replace hF := Lib.hid hF
        clear hs hpd hp
        show Calls Try.prog _ #[.int .i64 old, .int .i64 ((m + 1 : Nat) : Int), .int .i64 root, .int .i64 ((n + 1 : Nat) : Int), .slice oa 0 cap] w _
        obtain ⟨P, hPe⟩ : ∃ P, Pl.splitN (m + 1) = P := ⟨_, rfl⟩
        rw [hPe] at hk hsl
        have hPb : P ≤ 64 := by rw [← hPe]; exact Pl.splitN_le (by omega)
        replace hPe := Lib.hid hPe
        have u1 : (2 * (P : Int) == ((m + 1 : Nat) : Int)) = false := by rw [beq_eq_false_iff_ne]; omega
        have u2 : (2 * (P : Int) == (m : Int) + 1) = false := by rw [beq_eq_false_iff_ne]; omega
        have u3 : (((m + 1 : Nat) : Int) == 1) = false := by rw [beq_eq_false_iff_ne]; omega
        have u4 : ((m : Int) + 1 == 1) = false := by rw [beq_eq_false_iff_ne]; omega
        have u5 : ((m : Int) == 0) = false := by rw [beq_eq_false_iff_ne]; omega
        have u0 : ((m : Int) + 1 == (n : Int) + 1) = false := by rw [beq_eq_false_iff_ne]; omega
        clear hk hsl hmn
        go_enter Try.func30, Try.ntmps30
        go_wp2_with fail
        refine (Power_any (m + 1) _ (by omega)).mono ?_
        rintro e w' ⟨rfl, rfl⟩
        rw [hPe.out]
        go_wp2_with fail
        go_ret
        exact ⟨ret_bool hF.out.symm, Below.refl _ _⟩
      | cons x0 p' =>
        obtain ⟨q, hq⟩ : ∃ q, x0 :: p' = q := ⟨_, rfl⟩
        have st : Pl.extB (Pl.bitsF 8 sa sb) x0 x0 (q.drop 1) old root = F := by rw [← hq]; exact hF
        have hx0 := Lib.hid (hpd.out x0 (by simp))
        have hcx : ∃ g0 off0, oa = some ⟨g0, off0, none⟩ ∧ g0 < w.heap.size ∧ ∀ j u, (intVals q)[j]? = some u → w.cell? ⟨g0, off0 + j, none⟩ = some u := by
          rcases hs.mem with h0 | ⟨g0, off0, h1, h2, h3⟩
          · simp [intVals] at h0
          · exact ⟨g0, off0, h1, h2, by rw [← hq]; exact h3⟩
        obtain ⟨g0, off0, rfl, hg0, hcq⟩ := hcx
        have c00 : w.cell? ⟨g0, off0, none⟩ = some (.int .i64 x0) := hcq 0 _ (by rw [← hq]; rfl)
        have hqd := hpd
        rw [hq] at hqd hp hs ⊢
        have hq1 : 1 ≤ q.length := by rw [← hq]; simp
        replace st := Lib.hid st
        replace hcq := Lib.hid hcq
        clear hF hs hpd hq
        have e1 : ((m + 1 : Nat) : Int) - 1 = (m : Int) := by omega
        have e2 : ((n + 1 : Nat) : Int) - 1 = (n : Int) := by omega
        obtain ⟨P, hPe⟩ : ∃ P, Pl.splitN (m + 1) = P := ⟨_, rfl⟩
        rw [hPe] at hk hsl
        have hPb : P ≤ 64 := by rw [← hPe]; exact Pl.splitN_le (by omega)
        replace hPe := Lib.hid hPe
        have u1 : (2 * (P : Int) == ((m + 1 : Nat) : Int)) = false := by rw [beq_eq_false_iff_ne]; omega
        have u2 : (2 * (P : Int) == (m : Int) + 1) = false := by rw [beq_eq_false_iff_ne]; omega
        have u3 : (((m + 1 : Nat) : Int) == 1) = false := by rw [beq_eq_false_iff_ne]; omega
        have u4 : ((m : Int) + 1 == 1) = false := by rw [beq_eq_false_iff_ne]; omega
        have u5 : ((m : Int) == 0) = false := by rw [beq_eq_false_iff_ne]; omega
        have u0 : ((m : Int) + 1 == (n : Int) + 1) = false := by rw [beq_eq_false_iff_ne]; omega
        clear hk hsl hmn
        go_enter Try.func30, Try.ntmps30
        go_wp2_with fail
        refine (Power_any (m + 1) _ (by omega)).mono ?_
        rintro e w' ⟨rfl, rfl⟩
        rw [hPe.out]
        go_wp2_with fail
        go_loop [12, 13] (fun x y => OddRel sa sb x y) (fun x _ => (intOf x).toNat)
        case atStart => exact ⟨7, m, n, by go_num, by go_num, Nat.le_refl _, by omega, by omega, by omega, hodd⟩
        case round =>
          obtain ⟨g, a', b', rfl, rfl, hg, ha63, hb'63, hag, hsh⟩ := hrel
          by_cases hev : a' % 2 = 1
          · obtain ⟨g, rfl⟩ : ∃ g', g = g' + 1 := by
              cases g with
              | zero => simp at hag; omega
              | succ g => exact ⟨g, rfl⟩
            rw [Nat.pow_succ] at hag
            have hs2 : Pl.oddF g (a' / 2) (b' / 2) = (sa, sb) := by
              have := hsh.out
              rw [Pl.oddF, if_pos hev] at this
              exact this
            replace hs2 := Lib.hid hs2
            have t1 : ((a' : Int) % 2 == 1) = true := by rw [beq_iff_eq]; omega
            have ha0 : 0 < a' := by omega
            clear hev hsh
            go_wp2
            go_round
            case rel => exact ⟨g, a' / 2, b' / 2, by go_num, by go_num, by omega, by omega, by omega, by omega, hs2⟩
            case measure => simp [intOf]; omega
          · have hs2 : (a', b') = (sa, sb) := by
              have := hsh.out
              cases g with
              | zero => exact this
              | succ g => rw [Pl.oddF, if_neg hev] at this; exact this
            have hsa : a' = sa := (Prod.mk.inj hs2).1
            have hsb : b' = sb := (Prod.mk.inj hs2).2
            subst hsa
            subst hsb
            have t1 : ((a' : Int) % 2 == 1) = false := by rw [beq_eq_false_iff_ne]; omega
            clear hev hsh hs2
            go_wp2_with fail
            go_loop [12, 13, 14, 15, 16] (fun x y z t u => ExtRel q old root F x y z t u) (fun _ _ _ _ u => q.length - (intOf u).toNat)
            case atStart => exact ⟨8, a', b', 1, x0, x0, rfl, rfl, rfl, rfl, rfl, by omega, by omega, by omega, by omega, hx0.out, hx0.out, st⟩
            case round =>
              obtain ⟨f, a, b, k, x, y, rfl, rfl, rfl, rfl, rfl, hk, hab, hb63, hbf, hx, hy, hu⟩ := hrel
              replace hx := Lib.hid hx
              replace hy := Lib.hid hy
              by_cases hkl : k < q.length
              · have hcell : w.cell? ⟨g0, off0 + k, none⟩ = some (.int .i64 q[k]) := hcq.out k _ (intVals_get q k hkl)
                have hdrop : q.drop k = q[k] :: q.drop (k + 1) := List.drop_eq_getElem_cons hkl
                have hzd := Lib.hid (hqd.out q[k] (List.getElem_mem hkl))
                have hu2 := hu.out
                rw [hdrop] at hu2
                obtain ⟨z, hz⟩ : ∃ z, q[k] = z := ⟨_, rfl⟩
                rw [hz] at hcell hzd hu2
                clear hz hdrop hu
                by_cases hb0 : b = 0
                · subst hb0
                  rw [Pl.bitsF_zero] at hu2
                  have hF : F = false := by rw [← hu2]; rfl
                  replace hF := Lib.hid hF
                  clear hu2 hbf hab
                  go_wp2
                  go_ret
                  exact ⟨ret_bool hF.out.symm, Below.refl _ _⟩
                · have tb : ((b : Int) == 0) = false := by rw [beq_eq_false_iff_ne]; omega
                  obtain ⟨f, rfl⟩ : ∃ f', f = f' + 1 := by
                    cases f with
                    | zero => simp at hbf; omega
                    | succ f => exact ⟨f, rfl⟩
                  rw [Nat.pow_succ] at hbf
                  by_cases hod : a % 2 = 1 ∨ a = b
                  · rw [Pl.bitsF_odd hb0 hod] at hu2
                    have hu3 : Pl.extB (Pl.bitsF f ((Pl.shiftF 7 a b).1 / 2) ((Pl.shiftF 7 a b).2 / 2)) (Pl.pairS z x) (Pl.pairS z y) (q.drop (k + 1)) old root = F := hu2
                    have sl := Pl.shiftF_le 7 a b
                    have sl2 := sl.2 hab
                    obtain ⟨⟨ta, tb'⟩, hS⟩ : ∃ S, Pl.shiftF 7 a b = S := ⟨_, rfl⟩
                    rw [hS] at hu3 sl sl2
                    replace hu3 := Lib.hid hu3
                    replace hS := Lib.hid hS
                    have sl1 : tb' ≤ b := sl.1
                    have sl3 : ta ≤ tb' := sl2
                    clear hu2 sl sl2
                    have ho : (((a : Int) % 2 == 1) = true) ∨ (((a : Int) % 2 == 1) = false ∧ ((a : Int) == (b : Int)) = true) := by
                      by_cases h : a % 2 = 1
                      · left; rw [beq_iff_eq]; omega
                      · right; exact ⟨by rw [beq_eq_false_iff_ne]; omega, by rw [beq_iff_eq]; omega⟩
                    clear hod
                    rcases ho with tod | ⟨tod, te⟩
                    all_goals
                      go_wp2_with fail
                      refine (rpair_any _ _ _ hzd.out hx.out).mono ?_
                      rintro e w' ⟨rfl, rfl⟩
                      go_wp2_with fail
                      refine (rpair_any _ _ _ hzd.out hy.out).mono ?_
                      rintro e w' ⟨rfl, rfl⟩
                      go_wp2_with fail
                      clear tod
                      go_loop [12, 13] (fun x y => ShRel ta tb' x y) (fun x _ => (intOf x).toNat)
                      case atStart => exact ⟨7, a, b, rfl, rfl, Nat.le_refl _, by omega, by omega, by omega, hS⟩
                      case round =>
                        obtain ⟨g, a', b', rfl, rfl, hg, ha63, hb'63, hag, hsh⟩ := hrel
                        by_cases hev : a' % 2 = 0 ∧ a' ≠ 0
                        · obtain ⟨g, rfl⟩ : ∃ g', g = g' + 1 := by
                            cases g with
                            | zero => simp at hag; omega
                            | succ g => exact ⟨g, rfl⟩
                          rw [Nat.pow_succ] at hag
                          have hs2 : Pl.shiftF g (a' / 2) (b' / 2) = (ta, tb') := by
                            have := hsh.out
                            rw [Pl.shiftF, if_pos hev] at this
                            exact this
                          replace hs2 := Lib.hid hs2
                          have t1 : ((a' : Int) % 2 == 0) = true := by rw [beq_iff_eq]; omega
                          have t2 : ((a' : Int) != 0) = true := by rw [bne_iff_ne]; omega
                          have ha0 : 0 < a' := by omega
                          clear hev hsh
                          go_wp2
                          go_round
                          case rel => exact ⟨g, a' / 2, b' / 2, by go_num, by go_num, by omega, by omega, by omega, by omega, hs2⟩
                          case measure => simp [intOf]; omega
                        · have hs2 : (a', b') = (ta, tb') := by
                            have := hsh.out
                            cases g with
                            | zero => exact this
                            | succ g => rw [Pl.shiftF, if_neg hev] at this; exact this
                          have hsa : a' = ta := (Prod.mk.inj hs2).1
                          have hsb : b' = tb' := (Prod.mk.inj hs2).2
                          subst hsa
                          subst hsb
                          have ht : (((a' : Int) % 2 == 0) = false) ∨ (((a' : Int) % 2 == 0) = true ∧ ((a' : Int) != 0) = false) := by
                            by_cases h : a' % 2 = 0
                            · right; exact ⟨by rw [beq_iff_eq]; omega, by rw [bne_eq_false_iff_eq]; omega⟩
                            · left; rw [beq_eq_false_iff_ne]; omega
                          clear hev hsh hs2
                          rcases ht with t1 | ⟨t1, t2⟩
                          all_goals
                            have H : ExtRel q old root F (.int .i64 ((a' : Int) / 2)) (.int .i64 ((b' : Int) / 2)) (.int .i64 (Pl.pairS z x)) (.int .i64 (Pl.pairS z y)) (.int .i64 ((k : Int) + 1)) := ⟨f, a' / 2, b' / 2, k + 1, _, _, by go_num, by go_num, rfl, rfl, by go_num, by omega, by omega, by omega, by omega, Pl.pairS_digest _ _, Pl.pairS_digest _ _, hu3⟩
                            replace H := Lib.hid H
                            go_wp2
                            go_round
                            case rel => first | exact H.out | exact ⟨_, _, _, _, _, H.out, rfl, rfl, rfl, rfl, rfl⟩ | exact ⟨_, _, _, _, _, _, H.out, rfl, rfl, rfl, rfl, rfl, rfl⟩ | ((repeat apply Exists.intro); exact ⟨H.out, rfl⟩) | (refine ⟨trivial, ?_⟩; (repeat apply Exists.intro); exact ⟨H.out, rfl⟩)
                            case measure => simp [intOf]; omega
                  · rw [Pl.bitsF_even hb0 hod] at hu2
                    have hu3 : Pl.extB (Pl.bitsF f (a / 2) (b / 2)) x (Pl.pairS y z) (q.drop (k + 1)) old root = F := hu2
                    replace hu3 := Lib.hid hu3
                    have tod : ((a : Int) % 2 == 1) = false := by rw [beq_eq_false_iff_ne]; omega
                    have te : ((a : Int) == (b : Int)) = false := by rw [beq_eq_false_iff_ne]; omega
                    have H : ExtRel q old root F (.int .i64 ((a : Int) / 2)) (.int .i64 ((b : Int) / 2)) (.int .i64 x) (.int .i64 (Pl.pairS y z)) (.int .i64 ((k : Int) + 1)) := ⟨f, a / 2, b / 2, k + 1, _, _, by go_num, by go_num, rfl, rfl, by go_num, by omega, by omega, by omega, by omega, hx.out, Pl.pairS_digest _ _, hu3⟩
                    replace H := Lib.hid H
                    clear hu2 hod
                    go_wp2_with fail
                    refine (rpair_any _ _ _ hy.out hzd.out).mono ?_
                    rintro e w' ⟨rfl, rfl⟩
                    go_wp2_with fail
                    go_round
                    case rel => first | exact H.out | exact ⟨_, _, _, _, _, H.out, rfl, rfl, rfl, rfl, rfl⟩ | exact ⟨_, _, _, _, _, _, H.out, rfl, rfl, rfl, rfl, rfl, rfl⟩ | ((repeat apply Exists.intro); exact ⟨H.out, rfl⟩) | (refine ⟨trivial, ?_⟩; (repeat apply Exists.intro); exact ⟨H.out, rfl⟩)
                    case measure => simp [intOf]; omega
              · obtain rfl : k = q.length := by omega
                have hu2 := hu.out
                rw [List.drop_length] at hu2
                by_cases hb0 : b = 0
                · subst hb0
                  rw [Pl.bitsF_zero] at hu2
                  have hF : (x == old && y == root) = F := hu2
                  replace hF := Lib.hid hF
                  clear hu2 hbf hab hu
                  cases hxo : (x == old)
                  all_goals
                    go_wp2
                    go_ret
                    exact ⟨ret_bool (by rw [← hF.out, hxo]; rfl), Below.refl _ _⟩
                · have tb : ((b : Int) == 0) = false := by rw [beq_eq_false_iff_ne]; omega
                  obtain ⟨f, rfl⟩ : ∃ f', f = f' + 1 := by
                    cases f with
                    | zero => simp at hbf; omega
                    | succ f => exact ⟨f, rfl⟩
                  have hF : F = false := by
                    rw [← hu2]
                    by_cases hod : a % 2 = 1 ∨ a = b
                    · rw [Pl.bitsF_odd hb0 hod]; rfl
                    · rw [Pl.bitsF_even hb0 hod]; rfl
                  replace hF := Lib.hid hF
                  clear hu2 hu
                  go_wp2
                  go_ret
                  exact ⟨ret_bool hF.out.symm, Below.refl _ _⟩
end Go.Proofs.Ytplcbhcbahiheaa
