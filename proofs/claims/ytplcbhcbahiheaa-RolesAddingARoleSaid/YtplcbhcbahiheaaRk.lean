/- The law RolesAddingARole returns true. -/
import Derived.Test.YtplcbhcbahiheaaRg
import Derived.Test.YtplcbhcbahiheaaRh
import Derived.Test.YtplcbhcbahiheaaKk
namespace Go.Proofs.Ytplcbhcbahiheaa
open Go.RowKit

namespace Pl
theorem getD_app {rs : List Role} {r : Role} {i : Nat} (h : i < rs.length) : (rs ++ [r]).getD i Role.zero = rs.getD i Role.zero := by
  rw [List.getD_eq_getElem?_getD, List.getD_eq_getElem?_getD, List.getElem?_append_left h]
theorem getD_last (rs : List Role) (r : Role) : (rs ++ [r]).getD rs.length Role.zero = r := by
  rw [List.getD_eq_getElem?_getD, List.getElem?_append_right (Nat.le_refl _), Nat.sub_self]
  rfl
theorem roleC_app {rs : List Role} {r : Role} {i : Nat} (h : i < rs.length) : roleC (rs ++ [r]) i = roleC rs i := by
  unfold roleC
  rw [getD_app h]
  by_cases hp : parBad (rs.getD i Role.zero) i = true
  · rw [if_pos hp, if_pos hp]
  · rw [if_neg hp, if_neg hp]
    have e : preBad (rs ++ [r]) (rs.getD i Role.zero) i = preBad rs (rs.getD i Role.zero) i := by
      unfold preBad
      by_cases h0 : 0 < i
      · have hp2 : Pl.inB (rs.getD i Role.zero).parent 0 ((i : Int) - 1) = true := by
          have h1 : decide (0 < (i : Int)) = true := by simp; omega
          simp only [parBad, h1, Bool.true_and, Bool.not_eq_true, Bool.or_eq_false_iff, Bool.not_eq_false'] at hp
          exact hp.2
        have hp3 := inB_true.1 hp2
        rw [getD_app (show (rs.getD i Role.zero).parent.toNat < rs.length by omega)]
      · have h1 : decide (0 < (i : Int)) = false := by simp; omega
        rw [h1]
        simp
    rw [e]
theorem hit_app {rs : List Role} {r : Role} {p : ByteArray} {k : Nat} {last : Int} (h : k < rs.length) : hit (rs ++ [r]) p k last = hit rs p k last := by
  unfold hit
  rw [getD_app h]
theorem scan_app (rs : List Role) (r : Role) (p : ByteArray) : ∀ (n k : Nat) (last : Int), k + n ≤ rs.length → scan (rs ++ [r]) p n k last = scan rs p n k last
  | 0, _, _, _ => rfl
  | n + 1, k, last, h => by
    rw [scan, scan, hit_app (by omega), scan_app rs r p n (k + 1) (k : Int) (by omega), scan_app rs r p n (k + 1) last (by omega)]
theorem scan_snoc (rs : List Role) (p : ByteArray) : ∀ (n k : Nat) (last : Int), scan rs p (n + 1) k last = scan rs p n k last ++ (if hit rs p (k + n) ((scan rs p n k last).getLastD last) = true then [((k + n : Nat) : Int)] else [])
  | 0, k, last => by
    rw [scan, scan, scan, Nat.add_zero]
    rfl
  | n + 1, k, last => by
    rw [scan, scan_snoc rs p n (k + 1) (k : Int), scan_snoc rs p n (k + 1) last, scan, show k + 1 + n = k + (n + 1) by omega]
    split
    · rw [lastD_cons]; rfl
    · rfl
theorem chain_app {rs : List Role} (r : Role) (p : ByteArray) (h1 : 1 ≤ rs.length) : chain (rs ++ [r]) p = chain rs p ∨ (chain (rs ++ [r]) p = chain rs p ++ [(rs.length : Int)] ∧ startsB p r.pre = true) := by
  have e : chain (rs ++ [r]) p = 0 :: scan (rs ++ [r]) p ((rs.length - 1) + 1) 1 0 := by
    unfold chain
    rw [List.length_append, List.length_singleton, show rs.length + 1 - 1 = rs.length - 1 + 1 by omega]
  rw [e, scan_snoc, scan_app rs r p _ _ _ (by omega), show 1 + (rs.length - 1) = rs.length by omega]
  split
  · rename_i hh
    right
    refine ⟨rfl, ?_⟩
    simp only [hit, Bool.and_eq_true, getD_last] at hh
    exact hh.2
  · left
    rw [List.append_nil]
    rfl
theorem rolesF_app {rs : List Role} {r : Role} (h1 : 1 ≤ rs.length) (h11 : rs.length ≤ 11) (h : rolesF (rs ++ [r]) = (0, 0)) : rolesF rs = (0, 0) := by
  rcases rolesF_cases (rs ++ [r]) with ⟨_, _, _, hv⟩ | h2
  · rcases rolesF_cases rs with ⟨h3, _⟩ | h3
    · exact h3
    · exfalso
      unfold rolesF at h3
      rw [if_pos (inB_true.2 (by omega))] at h3
      rcases rolesAt_cases rs rs.length 0 with ⟨e, _⟩ | e
      · rw [e] at h3; exact h3 rfl
      · have all : ∀ f k, k + f = rs.length → rolesAt rs f k = (0, 0) := by
          intro f
          induction f with
          | zero => intro k _; rfl
          | succ f ih =>
            intro k hk
            rw [rolesAt, if_pos (by rw [← roleC_app (r := r) (by omega)]; exact hv k (by simp; omega))]
            exact ih (k + 1) (by omega)
        rw [all rs.length 0 (by omega)] at h3
        exact h3 rfl
  · rw [h] at h2; exact absurd rfl h2
theorem pathF_app {rs : List Role} {r : Role} {p : ByteArray} (h1 : 1 ≤ rs.length) (h11 : rs.length ≤ 11) (h : pathF (rs ++ [r]) p = (0, 0)) : pathF rs p = (0, 0) := by
  rcases pathF_cases (rs ++ [r]) p with ⟨_, h2, h3, h4⟩ | h2
  · rw [pathF, rolesF_app h1 h11 h2, if_pos rfl, if_neg (by omega)]
  · rw [h] at h2; exact absurd rfl h2
end Pl

theorem Try.tRoles : ElemT Try.prog 44 55 4 56 := ⟨Try.underlying44, ⟨_, _, rfl, rfl, rfl, rfl, rfl⟩, by decide, by decide⟩
theorem RoleIs.len {w : World} {r : Pl.Role} {cs : List Value} (h : RoleIs w r cs) : cs.length = 4 := by
  obtain ⟨ka, kc, rfl, _⟩ := h
  rfl
theorem RoleIs.one {w : World} {r : Pl.Role} {cs : List Value} (h : RoleIs w r cs) : ∀ u ∈ cs, u.oneCell' = true := by
  obtain ⟨ka, kc, rfl, _⟩ := h
  intro u hu
  simp only [roleCells, List.mem_cons, List.not_mem_nil, or_false] at hu
  rcases hu with rfl | rfl | rfl | rfl <;> rfl
theorem Elems.all {α : Type} {P : α → List Value → Prop} {sz : Nat} {Q : Value → Prop} (hQ : ∀ x c, P x c → ∀ u ∈ c, Q u) (hsz : 0 < sz) {xs : List α} {cs : List Value} (h : Elems P sz xs cs) : ∀ u ∈ cs, Q u := by
  intro u hu
  obtain ⟨j, hj, rfl⟩ := List.mem_iff_getElem.1 hu
  have h1 : j / sz < xs.length := (Nat.div_lt_iff_lt_mul hsz).2 (by rw [← h.len]; exact hj)
  refine hQ _ _ (h.each (j / sz) h1) _ ?_
  have h2 := Nat.mod_lt j hsz
  have h3 : j / sz * sz + j % sz = j := by rw [Nat.mul_comm]; exact Nat.div_add_mod j sz
  rw [List.mem_iff_getElem?]
  refine ⟨j % sz, ?_⟩
  rw [List.getElem?_take, if_pos h2, List.getElem?_drop, h3, List.getElem?_eq_getElem hj]
/-- The cells of a list of roles. -/
theorem RolesIn.elems {w : World} {oa : Option Addr} {cap : Nat} {rs : List Pl.Role} (h : RolesIn w oa cap rs) : ∃ cs, Elems (RoleIs w) 4 rs cs ∧ Sl w oa rs.length cap 4 cs := by
  rcases h.mem with h0 | ⟨b, off, rfl, hlt, hc⟩
  · subst h0
    exact ⟨[], Elems.nil, by simp, h.hcap, h.hmax, .inl rfl⟩
  · obtain ⟨cs, h1, h2⟩ := Elems.of (P := RoleIs w) (fun _ _ h => h.len) rs off hc
    exact ⟨cs, h1, h1.len, h.hcap, h.hmax, .inr ⟨b, off, rfl, hlt, h2⟩⟩
theorem RolesIn.ofElems {w : World} {oa : Option Addr} {n cap : Nat} {rs : List Pl.Role} {cs : List Value} (hn : n = rs.length) (h : Elems (RoleIs w) 4 rs cs) (hs : Sl w oa n cap 4 cs) : RolesIn w oa cap rs := by
  subst hn
  refine ⟨hs.hcap, hs.hmax, ?_⟩
  rcases hs.mem with h0 | ⟨b, off, rfl, hlt, hc⟩
  · left
    subst h0
    have := h.len
    exact List.eq_nil_of_length_eq_zero (by simp at this; omega)
  · exact .inr ⟨b, off, rfl, hlt, h.cells hc⟩

theorem RolesAddingARole_many (rs : List Pl.Role) (r : Pl.Role) (p : ByteArray) (oa ka : Option Addr) (cap kc : Nat) (w : World) (hr : RolesIn w oa cap rs) (_ : Sl w ka r.keys.length kc 1 (intVals r.keys)) (_ : r.keys.length ≤ 9223372036854775807) (_ : r.pre.size ≤ 9223372036854775807) (_ : p.size ≤ 9223372036854775807) (h11 : 11 < rs.length) :
    Calls Try.prog 12 #[.slice oa rs.length cap, .agg (roleCells r ka kc).toArray, .string p] w fun e w' => e = .returned (.bool true) ∧ Below w.heap.size w w' := by
  have hm := hr.len
  have t1 : decide ((11 : Int) < (rs.length : Int)) = true := by simp; omega
  unfold roleCells
  go_enter Try.func12, Try.ntmps12
  go_wp2_with fail
  refine (delegates_any _).mono ?_
  rintro e w1 ⟨rfl, hb1⟩
  have B1 : Below w.heap.size w w1 := bcall (by go_grown) hb1 (by go_size)
  have s1 := B1.size
  have q1 : w.heap.size + 1 ≤ w1.heap.size := by have h := hb1.size; first | omega | (simp at h; omega)
  clear hb1
  go_wp2_with fail
  go_ret
  exact ⟨ret_true (by simp), by go_grown⟩
theorem Ints_n (xs ys : List Int) (n m : Nat) (hn : xs.length = n) (hm : ys.length = m) (oa ob : Option Addr) (ca cb : Nat) (w : World) (h1 : Sl w oa n ca 1 (intVals xs)) (h2 : Sl w ob m cb 1 (intVals ys)) (hb : n ≤ 9223372036854775807) (hb2 : m ≤ 9223372036854775807) :
    Calls Try.prog 21 #[.slice oa n ca, .slice ob m cb] w fun e w' => e = .returned (.bool (decide (xs = ys))) ∧ Below w.heap.size w w' := by
  subst hn
  subst hm
  exact Ints_any xs ys oa ob ca cb w h1 h2 hb hb2
theorem Chain_n (rs : List Pl.Role) (n : Nat) (hn : rs.length = n) (p : ByteArray) (oa : Option Addr) (cap : Nat) (w : World) (hr : RolesIn w oa cap rs) (hp : p.size ≤ 9223372036854775807) :
    Calls Try.prog 35 #[.slice oa n cap, .string p] w (RIntsF 3 (Pl.chainV rs p) (Pl.pathF rs p) w) := by
  subst hn
  exact Chain_any rs p oa cap w hr hp
theorem Pl.chainV_len (rs : List Pl.Role) (p : ByteArray) : (Pl.chainV rs p).length ≤ rs.length + 1 := by
  unfold Pl.chainV
  split
  · have := Pl.scan_len rs p (rs.length - 1) 1 0
    unfold Pl.chain
    rw [List.length_cons]
    omega
  · simp
set_option maxHeartbeats 1000000 in
theorem RolesAddingARole_bad (rs : List Pl.Role) (r : Pl.Role) (p : ByteArray) (oa ka : Option Addr) (cap kc : Nat) (w : World) (hr : RolesIn w oa cap rs) (hk : Sl w ka r.keys.length kc 1 (intVals r.keys)) (hkl : r.keys.length ≤ 9223372036854775807) (hrp : r.pre.size ≤ 9223372036854775807) (hp : p.size ≤ 9223372036854775807) (h11 : rs.length ≤ 11) (hF : (Pl.pathF (rs ++ [r]) p).1 ≠ 0) :
    Calls Try.prog 12 #[.slice oa rs.length cap, .agg (roleCells r ka kc).toArray, .string p] w fun e w' => e = .returned (.bool true) ∧ Below w.heap.size w w' := by
  obtain ⟨F1, hF1⟩ : ∃ F, Pl.pathF rs p = F := ⟨_, rfl⟩
  obtain ⟨V1, hV1⟩ : ∃ V, Pl.chainV rs p = V := ⟨_, rfl⟩
  replace hF1 := Lib.hid hF1
  replace hV1 := Lib.hid hV1
  have HV := Lib.hid (show Pl.chainV (rs ++ [r]) p = [] by rw [Pl.chainV, if_neg hF])
  obtain ⟨G, hG⟩ : ∃ F, Pl.pathF (rs ++ [r]) p = F := ⟨_, rfl⟩
  rw [hG] at hF
  have HG := Lib.hid hG
  have u1 : (G.1 == 0) = false := by simp [hF]
  have u2 : (G.1 != 0) = true := by simp [hF]
  clear hG hF
  have hm := hr.len
  have t1 : decide ((11 : Int) < (rs.length : Int)) = false := by simp; omega
  unfold roleCells
  go_enter Try.func12, Try.ntmps12
  go_wp2_with fail
  refine (delegates_any _).mono ?_
  rintro e w1 ⟨rfl, hb1⟩
  have B1 : Below w.heap.size w w1 := bcall (by go_grown) hb1 (by go_size)
  have s1 := B1.size
  have q1 : w.heap.size + 1 ≤ w1.heap.size := by have h := hb1.size; first | omega | (simp at h; omega)
  have r0 : w1.cell? ⟨w.heap.size, 0, none⟩ = some (.int .i64 r.parent) := by rw [hb1.cell (p := ⟨w.heap.size, 0, none⟩) (by simp)]; simp
  have r1 : w1.cell? ⟨w.heap.size, 1, none⟩ = some (.string r.pre) := by rw [hb1.cell (p := ⟨w.heap.size, 1, none⟩) (by simp)]; simp
  have r2 : w1.cell? ⟨w.heap.size, 2, none⟩ = some (.slice ka r.keys.length kc) := by rw [hb1.cell (p := ⟨w.heap.size, 2, none⟩) (by simp)]; simp
  have r3 : w1.cell? ⟨w.heap.size, 3, none⟩ = some (.int .i64 r.need) := by rw [hb1.cell (p := ⟨w.heap.size, 3, none⟩) (by simp)]; simp
  clear hb1
  obtain ⟨cs, el1, sc1⟩ := (hr.below B1 (Nat.le_refl _)).elems
  have src1 := Src.ofSl (P := Try.prog) (t := 44) Try.underlying44 sc1 (by decide) (el1.all (fun _ _ h => h.one) (by decide))
  have hql : w.heap.size < w1.heap.size := by omega
  have tok : True := trivial
  go_wp2_with (first | (at_builtin; have _t := tok; clear _t; clear tok; refine ap (by rfl) (by rfl) Try.tRoles (Below.refl w1.heap.size w1) (by rfl) (World.ownsRow_nil _ _ _ _) (m := rs.length) src1 (by omega) (Nat.le_refl _) ?_; intro v2 w2 own2 G2 h2; have x0 := (G2.cell (p := ⟨w.heap.size, 0, none⟩) hql).trans r0; have x1 := (G2.cell (p := ⟨w.heap.size, 1, none⟩) hql).trans r1; have x2 := (G2.cell (p := ⟨w.heap.size, 2, none⟩) hql).trans r2; have x3 := (G2.cell (p := ⟨w.heap.size, 3, none⟩) hql).trans r3) | (at_builtin; refine ap1 (by rfl) (by rfl) Try.tRoles G2 (by rfl) own2 (m := 1) (by rfl) (by rfl) (by rfl) (by omega) h2 ?_; intro v3 w3 own3 G3 h3; obtain ⟨o3, c3, rfl⟩ := own_slice own3))
  have B3 := bcall B1 G3 s1
  have s3 := B3.size
  have q3 : w1.heap.size ≤ w3.heap.size := G3.size
  replace r1 : w3.cell? ⟨w.heap.size, 1, none⟩ = some (.string r.pre) := by first | exact r1 | exact (G3.cell (p := ⟨w.heap.size, 1, none⟩) hql).trans r1
  have more : RolesIn w3 o3 c3 (rs ++ [r]) := by
    refine RolesIn.ofElems (n := 0 + rs.length + 1) (by simp) ((el1.mono fun _ _ h => h.below G3 (Nat.le_refl _)).append (Elems.one (P := RoleIs w3) (cs := roleCells r ka kc) ⟨ka, kc, rfl, hk.below B3 (Nat.le_refl _), hkl, hrp⟩ rfl)) ?_
    have := Sl.own own3
    simpa [roleCells] using this
  clear own2 own3 src1 el1 sc1 G2 h2 h3 G3 hql
  skip
  refine (Chain_any rs p oa cap _ (hr.below (by go_grown) (Nat.le_refl _)) hp).mono ?_
  rintro e w4 ⟨o4, k4, rfl, own4, hb4⟩
  rw [hV1.out] at own4
  rw [hV1.out, hF1.out]
  have sl4 := Sl.own own4
  clear own4
  have B4 : Below w.heap.size w w4 := bcall (by go_grown) hb4 (by go_size)
  have s4 := B4.size
  have q4 : w3.heap.size ≤ w4.heap.size := by have h := hb4.size; first | omega | (simp at h; omega)
  replace more := more.below hb4 (Nat.le_refl _)
  replace r1 := (hb4.cell (p := ⟨w.heap.size, 1, none⟩) (by show w.heap.size < _; omega)).trans r1
  clear hb4
  go_wp2_with fail
  refine (Chain_n (rs ++ [r]) (rs.length + 1) (by simp) p o3 c3 _ (more.below (by go_grown) (Nat.le_refl _)) hp).mono ?_
  rintro e w5 ⟨o5, k5, rfl, own5, hb5⟩
  rw [HV.out] at own5
  rw [HV.out, HG.out]
  have sl5 := Sl.own own5
  clear own5
  have B5 : Below w.heap.size w w5 := bcall (by go_grown) hb5 (by go_size)
  have s5 := B5.size
  have q5 : w4.heap.size + 1 ≤ w5.heap.size := by have h := hb5.size; first | omega | (simp at h; omega)
  obtain ⟨ba0, ba1, baf, bag, bal⟩ := (Box2.new w4 (.int .i64 F1.1) (.int .i64 F1.2) 24).below hb5 (by go_size)
  replace more := (more.below (by go_grown) (Nat.le_refl _)).below hb5 (Nat.le_refl _)
  replace sl4 := (sl4.below (by go_grown) (Nat.le_refl _)).below hb5 (Nat.le_refl _)
  replace r1 := (hb5.cell (p := ⟨w.heap.size, 1, none⟩) (by show w.heap.size < _; simp; omega)).trans ((World.cell?_alloc_lt _ _ ⟨w.heap.size, 1, none⟩ (by show w.heap.size < w4.heap.size; omega)).trans r1)
  clear hb5
  go_wp2_with fail
  go_ret
  exact ⟨ret_true (by simp), by go_grown⟩
set_option maxHeartbeats 1000000 in
theorem RolesAddingARole_empty (rs : List Pl.Role) (r : Pl.Role) (p : ByteArray) (oa ka : Option Addr) (cap kc : Nat) (w : World) (hr : RolesIn w oa cap rs) (hk : Sl w ka r.keys.length kc 1 (intVals r.keys)) (hkl : r.keys.length ≤ 9223372036854775807) (hrp : r.pre.size ≤ 9223372036854775807) (hp : p.size ≤ 9223372036854775807) (h11 : rs.length ≤ 11) (hF : Pl.pathF (rs ++ [r]) p = (0, 0)) (h0 : rs.length = 0) :
    Calls Try.prog 12 #[.slice oa rs.length cap, .agg (roleCells r ka kc).toArray, .string p] w fun e w' => e = .returned (.bool true) ∧ Below w.heap.size w w' := by
  obtain ⟨F1, hF1⟩ : ∃ F, Pl.pathF rs p = F := ⟨_, rfl⟩
  obtain ⟨V1, hV1⟩ : ∃ V, Pl.chainV rs p = V := ⟨_, rfl⟩
  replace hF1 := Lib.hid hF1
  replace hV1 := Lib.hid hV1
  obtain ⟨V2, hV2⟩ : ∃ V, Pl.chainV (rs ++ [r]) p = V := ⟨_, rfl⟩
  replace hV2 := Lib.hid hV2
  have HG := Lib.hid hF
  have t5 : ((rs.length : Int) == 0) = true := beq_iff_eq.2 (by omega)
  clear hF h0
  have hm := hr.len
  have t1 : decide ((11 : Int) < (rs.length : Int)) = false := by simp; omega
  unfold roleCells
  go_enter Try.func12, Try.ntmps12
  go_wp2_with fail
  refine (delegates_any _).mono ?_
  rintro e w1 ⟨rfl, hb1⟩
  have B1 : Below w.heap.size w w1 := bcall (by go_grown) hb1 (by go_size)
  have s1 := B1.size
  have q1 : w.heap.size + 1 ≤ w1.heap.size := by have h := hb1.size; first | omega | (simp at h; omega)
  have r0 : w1.cell? ⟨w.heap.size, 0, none⟩ = some (.int .i64 r.parent) := by rw [hb1.cell (p := ⟨w.heap.size, 0, none⟩) (by simp)]; simp
  have r1 : w1.cell? ⟨w.heap.size, 1, none⟩ = some (.string r.pre) := by rw [hb1.cell (p := ⟨w.heap.size, 1, none⟩) (by simp)]; simp
  have r2 : w1.cell? ⟨w.heap.size, 2, none⟩ = some (.slice ka r.keys.length kc) := by rw [hb1.cell (p := ⟨w.heap.size, 2, none⟩) (by simp)]; simp
  have r3 : w1.cell? ⟨w.heap.size, 3, none⟩ = some (.int .i64 r.need) := by rw [hb1.cell (p := ⟨w.heap.size, 3, none⟩) (by simp)]; simp
  clear hb1
  obtain ⟨cs, el1, sc1⟩ := (hr.below B1 (Nat.le_refl _)).elems
  have src1 := Src.ofSl (P := Try.prog) (t := 44) Try.underlying44 sc1 (by decide) (el1.all (fun _ _ h => h.one) (by decide))
  have hql : w.heap.size < w1.heap.size := by omega
  have tok : True := trivial
  go_wp2_with (first | (at_builtin; have _t := tok; clear _t; clear tok; refine ap (by rfl) (by rfl) Try.tRoles (Below.refl w1.heap.size w1) (by rfl) (World.ownsRow_nil _ _ _ _) (m := rs.length) src1 (by omega) (Nat.le_refl _) ?_; intro v2 w2 own2 G2 h2; have x0 := (G2.cell (p := ⟨w.heap.size, 0, none⟩) hql).trans r0; have x1 := (G2.cell (p := ⟨w.heap.size, 1, none⟩) hql).trans r1; have x2 := (G2.cell (p := ⟨w.heap.size, 2, none⟩) hql).trans r2; have x3 := (G2.cell (p := ⟨w.heap.size, 3, none⟩) hql).trans r3) | (at_builtin; refine ap1 (by rfl) (by rfl) Try.tRoles G2 (by rfl) own2 (m := 1) (by rfl) (by rfl) (by rfl) (by omega) h2 ?_; intro v3 w3 own3 G3 h3; obtain ⟨o3, c3, rfl⟩ := own_slice own3))
  have B3 := bcall B1 G3 s1
  have s3 := B3.size
  have q3 : w1.heap.size ≤ w3.heap.size := G3.size
  replace r1 : w3.cell? ⟨w.heap.size, 1, none⟩ = some (.string r.pre) := by first | exact r1 | exact (G3.cell (p := ⟨w.heap.size, 1, none⟩) hql).trans r1
  have more : RolesIn w3 o3 c3 (rs ++ [r]) := by
    refine RolesIn.ofElems (n := 0 + rs.length + 1) (by simp) ((el1.mono fun _ _ h => h.below G3 (Nat.le_refl _)).append (Elems.one (P := RoleIs w3) (cs := roleCells r ka kc) ⟨ka, kc, rfl, hk.below B3 (Nat.le_refl _), hkl, hrp⟩ rfl)) ?_
    have := Sl.own own3
    simpa [roleCells] using this
  clear own2 own3 src1 el1 sc1 G2 h2 h3 G3 hql
  skip
  refine (Chain_any rs p oa cap _ (hr.below (by go_grown) (Nat.le_refl _)) hp).mono ?_
  rintro e w4 ⟨o4, k4, rfl, own4, hb4⟩
  rw [hV1.out] at own4
  rw [hV1.out, hF1.out]
  have sl4 := Sl.own own4
  clear own4
  have B4 : Below w.heap.size w w4 := bcall (by go_grown) hb4 (by go_size)
  have s4 := B4.size
  have q4 : w3.heap.size ≤ w4.heap.size := by have h := hb4.size; first | omega | (simp at h; omega)
  replace more := more.below hb4 (Nat.le_refl _)
  replace r1 := (hb4.cell (p := ⟨w.heap.size, 1, none⟩) (by show w.heap.size < _; omega)).trans r1
  clear hb4
  go_wp2_with fail
  refine (Chain_n (rs ++ [r]) (rs.length + 1) (by simp) p o3 c3 _ (more.below (by go_grown) (Nat.le_refl _)) hp).mono ?_
  rintro e w5 ⟨o5, k5, rfl, own5, hb5⟩
  rw [hV2.out] at own5
  rw [hV2.out, HG.out]
  have sl5 := Sl.own own5
  clear own5
  have B5 : Below w.heap.size w w5 := bcall (by go_grown) hb5 (by go_size)
  have s5 := B5.size
  have q5 : w4.heap.size + 1 ≤ w5.heap.size := by have h := hb5.size; first | omega | (simp at h; omega)
  obtain ⟨ba0, ba1, baf, bag, bal⟩ := (Box2.new w4 (.int .i64 F1.1) (.int .i64 F1.2) 24).below hb5 (by go_size)
  replace more := (more.below (by go_grown) (Nat.le_refl _)).below hb5 (Nat.le_refl _)
  replace sl4 := (sl4.below (by go_grown) (Nat.le_refl _)).below hb5 (Nat.le_refl _)
  replace r1 := (hb5.cell (p := ⟨w.heap.size, 1, none⟩) (by show w.heap.size < _; simp; omega)).trans ((World.cell?_alloc_lt _ _ ⟨w.heap.size, 1, none⟩ (by show w.heap.size < w4.heap.size; omega)).trans r1)
  clear hb5
  go_wp2_with fail
  go_ret
  exact ⟨ret_true (by simp), by go_grown⟩
set_option maxHeartbeats 1000000 in
theorem RolesAddingARole_same (rs : List Pl.Role) (r : Pl.Role) (p : ByteArray) (oa ka : Option Addr) (cap kc : Nat) (w : World) (hr : RolesIn w oa cap rs) (hk : Sl w ka r.keys.length kc 1 (intVals r.keys)) (hkl : r.keys.length ≤ 9223372036854775807) (hrp : r.pre.size ≤ 9223372036854775807) (hp : p.size ≤ 9223372036854775807) (h11 : rs.length ≤ 11) (hF : Pl.pathF (rs ++ [r]) p = (0, 0)) (h0 : 1 ≤ rs.length) (hV : Pl.chainV (rs ++ [r]) p = Pl.chainV rs p) :
    Calls Try.prog 12 #[.slice oa rs.length cap, .agg (roleCells r ka kc).toArray, .string p] w fun e w' => e = .returned (.bool true) ∧ Below w.heap.size w w' := by
  have HF1 := Lib.hid (Pl.pathF_app h0 h11 hF)
  have hle := Pl.chainV_len rs p
  obtain ⟨V1, hV1⟩ : ∃ V, Pl.chainV rs p = V := ⟨_, rfl⟩
  rw [hV1] at hV hle
  replace hV1 := Lib.hid hV1
  replace hV := Lib.hid hV
  have HG := Lib.hid hF
  have t5 : ((rs.length : Int) == 0) = false := beq_eq_false_iff_ne.2 (by omega)
  clear hF
  have hm := hr.len
  have t1 : decide ((11 : Int) < (rs.length : Int)) = false := by simp; omega
  unfold roleCells
  go_enter Try.func12, Try.ntmps12
  go_wp2_with fail
  refine (delegates_any _).mono ?_
  rintro e w1 ⟨rfl, hb1⟩
  have B1 : Below w.heap.size w w1 := bcall (by go_grown) hb1 (by go_size)
  have s1 := B1.size
  have q1 : w.heap.size + 1 ≤ w1.heap.size := by have h := hb1.size; first | omega | (simp at h; omega)
  have r0 : w1.cell? ⟨w.heap.size, 0, none⟩ = some (.int .i64 r.parent) := by rw [hb1.cell (p := ⟨w.heap.size, 0, none⟩) (by simp)]; simp
  have r1 : w1.cell? ⟨w.heap.size, 1, none⟩ = some (.string r.pre) := by rw [hb1.cell (p := ⟨w.heap.size, 1, none⟩) (by simp)]; simp
  have r2 : w1.cell? ⟨w.heap.size, 2, none⟩ = some (.slice ka r.keys.length kc) := by rw [hb1.cell (p := ⟨w.heap.size, 2, none⟩) (by simp)]; simp
  have r3 : w1.cell? ⟨w.heap.size, 3, none⟩ = some (.int .i64 r.need) := by rw [hb1.cell (p := ⟨w.heap.size, 3, none⟩) (by simp)]; simp
  clear hb1
  obtain ⟨cs, el1, sc1⟩ := (hr.below B1 (Nat.le_refl _)).elems
  have src1 := Src.ofSl (P := Try.prog) (t := 44) Try.underlying44 sc1 (by decide) (el1.all (fun _ _ h => h.one) (by decide))
  have hql : w.heap.size < w1.heap.size := by omega
  have tok : True := trivial
  go_wp2_with (first | (at_builtin; have _t := tok; clear _t; clear tok; refine ap (by rfl) (by rfl) Try.tRoles (Below.refl w1.heap.size w1) (by rfl) (World.ownsRow_nil _ _ _ _) (m := rs.length) src1 (by omega) (Nat.le_refl _) ?_; intro v2 w2 own2 G2 h2; have x0 := (G2.cell (p := ⟨w.heap.size, 0, none⟩) hql).trans r0; have x1 := (G2.cell (p := ⟨w.heap.size, 1, none⟩) hql).trans r1; have x2 := (G2.cell (p := ⟨w.heap.size, 2, none⟩) hql).trans r2; have x3 := (G2.cell (p := ⟨w.heap.size, 3, none⟩) hql).trans r3) | (at_builtin; refine ap1 (by rfl) (by rfl) Try.tRoles G2 (by rfl) own2 (m := 1) (by rfl) (by rfl) (by rfl) (by omega) h2 ?_; intro v3 w3 own3 G3 h3; obtain ⟨o3, c3, rfl⟩ := own_slice own3))
  have B3 := bcall B1 G3 s1
  have s3 := B3.size
  have q3 : w1.heap.size ≤ w3.heap.size := G3.size
  replace r1 : w3.cell? ⟨w.heap.size, 1, none⟩ = some (.string r.pre) := by first | exact r1 | exact (G3.cell (p := ⟨w.heap.size, 1, none⟩) hql).trans r1
  have more : RolesIn w3 o3 c3 (rs ++ [r]) := by
    refine RolesIn.ofElems (n := 0 + rs.length + 1) (by simp) ((el1.mono fun _ _ h => h.below G3 (Nat.le_refl _)).append (Elems.one (P := RoleIs w3) (cs := roleCells r ka kc) ⟨ka, kc, rfl, hk.below B3 (Nat.le_refl _), hkl, hrp⟩ rfl)) ?_
    have := Sl.own own3
    simpa [roleCells] using this
  clear own2 own3 src1 el1 sc1 G2 h2 h3 G3 hql
  skip
  refine (Chain_any rs p oa cap _ (hr.below (by go_grown) (Nat.le_refl _)) hp).mono ?_
  rintro e w4 ⟨o4, k4, rfl, own4, hb4⟩
  rw [hV1.out] at own4
  rw [hV1.out, HF1.out]
  have sl4 := Sl.own own4
  clear own4
  have B4 : Below w.heap.size w w4 := bcall (by go_grown) hb4 (by go_size)
  have s4 := B4.size
  have q4 : w3.heap.size ≤ w4.heap.size := by have h := hb4.size; first | omega | (simp at h; omega)
  replace more := more.below hb4 (Nat.le_refl _)
  replace r1 := (hb4.cell (p := ⟨w.heap.size, 1, none⟩) (by show w.heap.size < _; omega)).trans r1
  clear hb4
  go_wp2_with fail
  refine (Chain_n (rs ++ [r]) (rs.length + 1) (by simp) p o3 c3 _ (more.below (by go_grown) (Nat.le_refl _)) hp).mono ?_
  rintro e w5 ⟨o5, k5, rfl, own5, hb5⟩
  rw [hV.out] at own5
  rw [hV.out, HG.out]
  have sl5 := Sl.own own5
  clear own5
  have B5 : Below w.heap.size w w5 := bcall (by go_grown) hb5 (by go_size)
  have s5 := B5.size
  have q5 : w4.heap.size + 1 ≤ w5.heap.size := by have h := hb5.size; first | omega | (simp at h; omega)
  obtain ⟨ba0, ba1, baf, bag, bal⟩ := (Box2.new w4 (.int .i64 0) (.int .i64 0) 24).below hb5 (by go_size)
  replace more := (more.below (by go_grown) (Nat.le_refl _)).below hb5 (Nat.le_refl _)
  replace sl4 := (sl4.below (by go_grown) (Nat.le_refl _)).below hb5 (Nat.le_refl _)
  replace r1 := (hb5.cell (p := ⟨w.heap.size, 1, none⟩) (by show w.heap.size < _; simp; omega)).trans ((World.cell?_alloc_lt _ _ ⟨w.heap.size, 1, none⟩ (by show w.heap.size < w4.heap.size; omega)).trans r1)
  clear hb5
  go_wp2_with fail
  refine (Ints_any V1 V1 o4 o5 k4 k5 _ (sl4.below (by go_grown) (Nat.le_refl _)) (sl5.below (by go_grown) (Nat.le_refl _)) (by omega) (by omega)).mono ?_
  rw [show decide (V1 = V1) = true from decide_eq_true rfl]
  rintro e w6 ⟨rfl, hb6⟩
  have B6 : Below w.heap.size w w6 := bcall (by go_grown) hb6 (by go_size)
  have s6 := B6.size
  have q6 : w5.heap.size + 1 ≤ w6.heap.size := by have h := hb6.size; first | omega | (simp at h; omega)
  obtain ⟨ba0, ba1, baf, bag, bal⟩ := ((Box2.mk ba0 ba1 baf bag bal).alloc (.cells #[(.int .i64 0), (.int .i64 0)] 24)).below hb6 (by go_size)
  obtain ⟨bb0, bb1, bbf, bbg, bbl⟩ := (Box2.new w5 (.int .i64 0) (.int .i64 0) 24).below hb6 (by go_size)
  replace sl4 := (sl4.below (by go_grown) (Nat.le_refl _)).below hb6 (Nat.le_refl _)
  replace sl5 := (sl5.below (by go_grown) (Nat.le_refl _)).below hb6 (Nat.le_refl _)
  clear hb6
  go_wp2_with fail
  go_ret
  exact ⟨ret_true (by simp), by go_grown⟩
set_option maxHeartbeats 1000000 in
theorem RolesAddingARole_longer (rs : List Pl.Role) (r : Pl.Role) (p : ByteArray) (oa ka : Option Addr) (cap kc : Nat) (w : World) (hr : RolesIn w oa cap rs) (hk : Sl w ka r.keys.length kc 1 (intVals r.keys)) (hkl : r.keys.length ≤ 9223372036854775807) (hrp : r.pre.size ≤ 9223372036854775807) (hp : p.size ≤ 9223372036854775807) (h11 : rs.length ≤ 11) (hF : Pl.pathF (rs ++ [r]) p = (0, 0)) (h0 : 1 ≤ rs.length) (hV : Pl.chainV (rs ++ [r]) p = Pl.chainV rs p ++ [(rs.length : Int)]) (hst : Pl.startsB p r.pre = true) :
    Calls Try.prog 12 #[.slice oa rs.length cap, .agg (roleCells r ka kc).toArray, .string p] w fun e w' => e = .returned (.bool true) ∧ Below w.heap.size w w' := by
  have HF1 := Lib.hid (Pl.pathF_app h0 h11 hF)
  have hle := Pl.chainV_len rs p
  obtain ⟨V1, hV1⟩ : ∃ V, Pl.chainV rs p = V := ⟨_, rfl⟩
  rw [hV1] at hV hle
  replace hV1 := Lib.hid hV1
  replace hV := Lib.hid hV
  replace hst := Lib.hid hst
  have HG := Lib.hid hF
  have t5 : ((rs.length : Int) == 0) = false := beq_eq_false_iff_ne.2 (by omega)
  have hne := Lib.hid (show decide (V1 = V1 ++ [(rs.length : Int)]) = false from decide_eq_false (by intro h; have := congrArg List.length h; simp at this))
  clear hF
  have hm := hr.len
  have t1 : decide ((11 : Int) < (rs.length : Int)) = false := by simp; omega
  unfold roleCells
  go_enter Try.func12, Try.ntmps12
  go_wp2_with fail
  refine (delegates_any _).mono ?_
  rintro e w1 ⟨rfl, hb1⟩
  have B1 : Below w.heap.size w w1 := bcall (by go_grown) hb1 (by go_size)
  have s1 := B1.size
  have q1 : w.heap.size + 1 ≤ w1.heap.size := by have h := hb1.size; first | omega | (simp at h; omega)
  have r0 : w1.cell? ⟨w.heap.size, 0, none⟩ = some (.int .i64 r.parent) := by rw [hb1.cell (p := ⟨w.heap.size, 0, none⟩) (by simp)]; simp
  have r1 : w1.cell? ⟨w.heap.size, 1, none⟩ = some (.string r.pre) := by rw [hb1.cell (p := ⟨w.heap.size, 1, none⟩) (by simp)]; simp
  have r2 : w1.cell? ⟨w.heap.size, 2, none⟩ = some (.slice ka r.keys.length kc) := by rw [hb1.cell (p := ⟨w.heap.size, 2, none⟩) (by simp)]; simp
  have r3 : w1.cell? ⟨w.heap.size, 3, none⟩ = some (.int .i64 r.need) := by rw [hb1.cell (p := ⟨w.heap.size, 3, none⟩) (by simp)]; simp
  clear hb1
  obtain ⟨cs, el1, sc1⟩ := (hr.below B1 (Nat.le_refl _)).elems
  have src1 := Src.ofSl (P := Try.prog) (t := 44) Try.underlying44 sc1 (by decide) (el1.all (fun _ _ h => h.one) (by decide))
  have hql : w.heap.size < w1.heap.size := by omega
  have tok : True := trivial
  go_wp2_with (first | (at_builtin; have _t := tok; clear _t; clear tok; refine ap (by rfl) (by rfl) Try.tRoles (Below.refl w1.heap.size w1) (by rfl) (World.ownsRow_nil _ _ _ _) (m := rs.length) src1 (by omega) (Nat.le_refl _) ?_; intro v2 w2 own2 G2 h2; have x0 := (G2.cell (p := ⟨w.heap.size, 0, none⟩) hql).trans r0; have x1 := (G2.cell (p := ⟨w.heap.size, 1, none⟩) hql).trans r1; have x2 := (G2.cell (p := ⟨w.heap.size, 2, none⟩) hql).trans r2; have x3 := (G2.cell (p := ⟨w.heap.size, 3, none⟩) hql).trans r3) | (at_builtin; refine ap1 (by rfl) (by rfl) Try.tRoles G2 (by rfl) own2 (m := 1) (by rfl) (by rfl) (by rfl) (by omega) h2 ?_; intro v3 w3 own3 G3 h3; obtain ⟨o3, c3, rfl⟩ := own_slice own3))
  have B3 := bcall B1 G3 s1
  have s3 := B3.size
  have q3 : w1.heap.size ≤ w3.heap.size := G3.size
  replace r1 : w3.cell? ⟨w.heap.size, 1, none⟩ = some (.string r.pre) := by first | exact r1 | exact (G3.cell (p := ⟨w.heap.size, 1, none⟩) hql).trans r1
  have more : RolesIn w3 o3 c3 (rs ++ [r]) := by
    refine RolesIn.ofElems (n := 0 + rs.length + 1) (by simp) ((el1.mono fun _ _ h => h.below G3 (Nat.le_refl _)).append (Elems.one (P := RoleIs w3) (cs := roleCells r ka kc) ⟨ka, kc, rfl, hk.below B3 (Nat.le_refl _), hkl, hrp⟩ rfl)) ?_
    have := Sl.own own3
    simpa [roleCells] using this
  clear own2 own3 src1 el1 sc1 G2 h2 h3 G3 hql
  skip
  refine (Chain_any rs p oa cap _ (hr.below (by go_grown) (Nat.le_refl _)) hp).mono ?_
  rintro e w4 ⟨o4, k4, rfl, own4, hb4⟩
  rw [hV1.out] at own4
  rw [hV1.out, HF1.out]
  have sl4 := Sl.own own4
  clear own4
  have B4 : Below w.heap.size w w4 := bcall (by go_grown) hb4 (by go_size)
  have s4 := B4.size
  have q4 : w3.heap.size ≤ w4.heap.size := by have h := hb4.size; first | omega | (simp at h; omega)
  replace more := more.below hb4 (Nat.le_refl _)
  replace r1 := (hb4.cell (p := ⟨w.heap.size, 1, none⟩) (by show w.heap.size < _; omega)).trans r1
  clear hb4
  go_wp2_with fail
  refine (Chain_n (rs ++ [r]) (rs.length + 1) (by simp) p o3 c3 _ (more.below (by go_grown) (Nat.le_refl _)) hp).mono ?_
  rintro e w5 ⟨o5, k5, rfl, own5, hb5⟩
  rw [hV.out] at own5
  rw [hV.out, HG.out]
  have sl5 := Sl.own own5
  clear own5
  have B5 : Below w.heap.size w w5 := bcall (by go_grown) hb5 (by go_size)
  have s5 := B5.size
  have q5 : w4.heap.size + 1 ≤ w5.heap.size := by have h := hb5.size; first | omega | (simp at h; omega)
  obtain ⟨ba0, ba1, baf, bag, bal⟩ := (Box2.new w4 (.int .i64 0) (.int .i64 0) 24).below hb5 (by go_size)
  replace more := (more.below (by go_grown) (Nat.le_refl _)).below hb5 (Nat.le_refl _)
  replace sl4 := (sl4.below (by go_grown) (Nat.le_refl _)).below hb5 (Nat.le_refl _)
  replace r1 := (hb5.cell (p := ⟨w.heap.size, 1, none⟩) (by show w.heap.size < _; simp; omega)).trans ((World.cell?_alloc_lt _ _ ⟨w.heap.size, 1, none⟩ (by show w.heap.size < w4.heap.size; omega)).trans r1)
  clear hb5
  go_wp2_with fail
  rw [List.length_append, List.length_singleton] at sl5
  refine (Ints_n V1 (V1 ++ [(rs.length : Int)]) V1.length (V1.length + 1) rfl (by simp) o4 o5 k4 k5 _ (sl4.below (by go_grown) (Nat.le_refl _)) (sl5.below (by go_grown) (Nat.le_refl _)) (by omega) (by omega)).mono ?_
  rw [hne.out]
  rintro e w6 ⟨rfl, hb6⟩
  have B6 : Below w.heap.size w w6 := bcall (by go_grown) hb6 (by go_size)
  have s6 := B6.size
  have q6 : w5.heap.size + 1 ≤ w6.heap.size := by have h := hb6.size; first | omega | (simp at h; omega)
  obtain ⟨ba0, ba1, baf, bag, bal⟩ := ((Box2.mk ba0 ba1 baf bag bal).alloc (.cells #[(.int .i64 0), (.int .i64 0)] 24)).below hb6 (by go_size)
  obtain ⟨bb0, bb1, bbf, bbg, bbl⟩ := (Box2.new w5 (.int .i64 0) (.int .i64 0) 24).below hb6 (by go_size)
  replace sl4 := (sl4.below (by go_grown) (Nat.le_refl _)).below hb6 (Nat.le_refl _)
  replace sl5 := (sl5.below (by go_grown) (Nat.le_refl _)).below hb6 (Nat.le_refl _)
  replace r1 := (hb6.cell (p := ⟨w.heap.size, 1, none⟩) (by show w.heap.size < _; simp; omega)).trans ((World.cell?_alloc_lt _ _ ⟨w.heap.size, 1, none⟩ (by show w.heap.size < w5.heap.size; omega)).trans r1)
  clear hb6
  have src6 := Src.ofSl (P := Try.prog) (t := 22) Try.underlying22 sl4 (by decide) (by intro u hu; simp only [intVals, List.mem_map] at hu; obtain ⟨x, _, rfl⟩ := hu; rfl)
  have tok : True := trivial
  go_wp2_with (first | (at_builtin; have _t := tok; clear _t; clear tok; refine ap (by rfl) (by rfl) Try.tInts (Below.refl w6.heap.size w6) (by rfl) (World.ownsRow_nil _ _ _ _) (m := V1.length) src6 (by omega) (Nat.le_refl _) ?_; intro v7 w7 own7 G7 h7) | (at_builtin; refine ap1 (by rfl) (by rfl) Try.tInts G7 (by rfl) own7 (m := 1) (by rfl) (by rfl) (by rfl) (by omega) h7 ?_; intro v8 w8 own8 G8 h8; obtain ⟨o8, c8, rfl⟩ := own_slice own8))
  have B8 := bcall B6 G8 s6
  have s8 := B8.size
  have q8 : w6.heap.size ≤ w8.heap.size := G8.size
  have sl8 : Sl w8 o8 (V1.length + 1) c8 1 (intVals (V1 ++ [(rs.length : Int)])) := by
    have := Sl.own own8
    rw [intVals_append]
    simpa [intVals] using this
  replace sl5 := sl5.below G8 (Nat.le_refl _)
  have r1b := (G8.cell (p := ⟨w.heap.size, 1, none⟩) (by show w.heap.size < _; omega)).trans r1
  clear own7 own8 src6 G7 h7 h8 G8 sl4
  refine (Ints_n (V1 ++ [(rs.length : Int)]) (V1 ++ [(rs.length : Int)]) (V1.length + 1) (V1.length + 1) (by simp) (by simp) o5 o8 k5 c8 _ (sl5.below (by go_grown) (Nat.le_refl _)) sl8 (by omega) (by omega)).mono ?_
  rw [show decide (V1 ++ [(rs.length : Int)] = V1 ++ [(rs.length : Int)]) = true from decide_eq_true rfl]
  rintro e w9 ⟨rfl, hb9⟩
  have B9 : Below w.heap.size w w9 := bcall (by go_grown) hb9 (by go_size)
  have s9 := B9.size
  have q9 : w8.heap.size ≤ w9.heap.size := by have h := hb9.size; first | omega | (simp at h; omega)
  have r1c := (hb9.cell (p := ⟨w.heap.size, 1, none⟩) (by show w.heap.size < _; omega)).trans r1b
  clear hb9
  go_wp2_with (go_at_call 41; refine (Starts_val _ _ _ hst.out hp hrp).mono ?_; rintro e w' ⟨rfl, rfl⟩)
  go_ret
  exact ⟨ret_true (by simp), by go_grown⟩
theorem RolesAddingARole_main (rs : List Pl.Role) (r : Pl.Role) (p : ByteArray) (oa ka : Option Addr) (cap kc : Nat) (w : World) (hr : RolesIn w oa cap rs) (hk : Sl w ka r.keys.length kc 1 (intVals r.keys)) (hkl : r.keys.length ≤ 9223372036854775807) (hrp : r.pre.size ≤ 9223372036854775807) (hp : p.size ≤ 9223372036854775807) :
    Calls Try.prog 12 #[.slice oa rs.length cap, .agg (roleCells r ka kc).toArray, .string p] w fun e w' => e = .returned (.bool true) ∧ Below w.heap.size w w' := by
  by_cases h11 : rs.length ≤ 11
  · rcases Pl.pathF_cases (rs ++ [r]) p with ⟨hF, -⟩ | hF
    · by_cases h0 : 1 ≤ rs.length
      · have e1 : Pl.chainV rs p = Pl.chain rs p := by rw [Pl.chainV, Pl.pathF_app h0 h11 hF]; rfl
        have e2 : Pl.chainV (rs ++ [r]) p = Pl.chain (rs ++ [r]) p := by rw [Pl.chainV, hF]; rfl
        rcases Pl.chain_app r p h0 with h | ⟨h, hs⟩
        · exact RolesAddingARole_same rs r p oa ka cap kc w hr hk hkl hrp hp h11 hF h0 (by rw [e1, e2, h])
        · exact RolesAddingARole_longer rs r p oa ka cap kc w hr hk hkl hrp hp h11 hF h0 (by rw [e1, e2, h]) hs
      · exact RolesAddingARole_empty rs r p oa ka cap kc w hr hk hkl hrp hp h11 hF (by omega)
    · exact RolesAddingARole_bad rs r p oa ka cap kc w hr hk hkl hrp hp h11 hF
  · exact RolesAddingARole_many rs r p oa ka cap kc w hr hk hkl hrp hp (by omega)
end Go.Proofs.Ytplcbhcbahiheaa
