/- Contract of package keyring: the map of a keyring. -/
import Derived.Test.YtldepnabkdpokaaVa
namespace Go.Proofs.Ytldepnabkdpokaa
open Go.RowKit

theorem Box2.grown {w w' : World} {r g : Nat} {x y : Value} (h : Box2 w r x y) (hg : w.grownBy w' (some g)) (hne : r ≠ g) : Box2 w' r x y := by
  have hb := hg.block r h.lt (by simpa using hne)
  refine ⟨?_, ?_, ?_, ?_, Nat.lt_of_lt_of_le h.lt hg.size⟩
  · have := h.c0; unfold World.cell? at *; simpa [hb] using this
  · have := h.c1; unfold World.cell? at *; simpa [hb] using this
  · have := h.f0; unfold World.frozen? at *; simpa [hb] using this
  · have := h.f1; unfold World.frozen? at *; simpa [hb] using this
/-- What open says. -/
def ROpen (t : TypeId) (P : Program) (l : List Pl.Ev) (w : World) (e : Ending) (w' : World) : Prop :=
  Below w.heap.size w w' ∧ ((Pl.krF l).1 ≠ 0 ∧ e = .returned (.tuple #[.map none, .agg #[.int .i64 (Pl.krF l).1, .int .i64 (Pl.krF l).2]]) ∨
    Pl.krF l = (0, 0) ∧ ∃ g, e = .returned (.tuple #[.map (some g), .agg #[.int .i64 0, .int .i64 0]]) ∧ w.heap.size ≤ g ∧ KM P t w' g l.length l)
theorem evAt_eq (l : List Pl.Ev) (k : Nat) (h : k < l.length) : Pl.evAt l k = Pl.evC (l.take k) (Pl.lastT (l.take k)) l[k] := by
  unfold Pl.evAt
  rw [List.getD_eq_getElem?_getD, List.getElem?_eq_getElem h]
  rfl
set_option maxHeartbeats 4000000 in
theorem open_any (l : List Pl.Ev) (oa : Option Addr) (cap : Nat) (w : World) (hs : Sl w oa l.length cap 4 (quadVals l)) (hm : l.length ≤ 9223372036854775807) (hw : ∀ e ∈ l, (Lit.int .i64 e.key).wf = true) :
    Calls Try.prog 22 #[.slice oa l.length cap] w (ROpen 3 Try.prog l w) := by
  by_cases hn : l.length ≤ 40
  · obtain ⟨F, hF⟩ : ∃ F, Pl.krAt l l.length 0 = F := ⟨_, rfl⟩
    have fin : ∀ e w', Below w.heap.size w w' → (F.1 ≠ 0 ∧ e = .returned (.tuple #[.map none, .agg #[.int .i64 F.1, .int .i64 F.2]]) ∨ F = (0, 0) ∧ ∃ g, e = .returned (.tuple #[.map (some g), .agg #[.int .i64 0, .int .i64 0]]) ∧ w.heap.size ≤ g ∧ KM Try.prog 3 w' g l.length l) → ROpen 3 Try.prog l w e w' := by
      intro e w' h1 h2
      refine ⟨h1, ?_⟩
      have e0 : Pl.krF l = F := by unfold Pl.krF; rw [if_pos hn, hF]
      rw [e0]
      exact h2
    replace fin := Lib.hid fin
    replace hF := Lib.hid hF
    have hn' : decide (40 < l.length) = false := by simp; omega
    have hn2 : decide ((40 : Int) < (l.length : Int)) = false := by simp; omega
    have hmm := @run_makeMap Try.prog
    go_enter Try.func22, Try.ntmps22
    go_wp2
    go_loopw [5, 17] (fun v i wr => ∃ k : Nat, k ≤ l.length ∧ i = .int .i64 (k : Int) ∧ v = .int .i64 (Pl.lastT (l.take k)) ∧ Hid (Pl.krAt l (l.length - k) k = F) ∧ Hid (∀ j, j < k → Pl.evAt l j = 0) ∧ KM Try.prog 3 wr (w.heap.size + 1) k (l.take k) ∧ Box2 wr w.heap.size (.int .i64 0) (.int .i64 0) ∧ Below w.heap.size w wr) (fun _ i _ => l.length - (intOf i).toNat)
    case atStart =>
      refine ⟨0, Nat.zero_le _, rfl, rfl, hF, Lib.hid (fun j hj => absurd hj (by omega)), ?_, ?_, by go_grown⟩
      · have := KM.made (P := Try.prog) (K := 3) (w.alloc (.cells #[.int .i64 0, .int .i64 0] 27))
        simpa using this
      · exact (Box2.new w (.int .i64 0) (.int .i64 0) 27).alloc _
    case round =>
      obtain ⟨k, hk, rfl, rfl, hu, hv, hkm, hbx, hbw⟩ := hrel
      have sw := hbw.size
      by_cases hlt : k < l.length
      · obtain ⟨b, off, rfl, hb, c0, c1, c2, c3⟩ := (hs.below hbw (Nat.le_refl _)).quad hlt
        have HS := Lib.hid (Pl.krAt_step l k hlt)
        have HE := Lib.hid (evAt_eq l k hlt)
        have HT := Lib.hid (show l.take k ++ [l[k]] = l.take (k + 1) by rw [List.take_succ_eq_append_getElem hlt])
        have hky := hw _ (List.getElem_mem hlt)
        have t1 : decide (k < l.length) = true := by simp; omega
        have t2 : (k : Int) < (l.length : Int) := by omega
        obtain ⟨⟨kd, ky, us, tm⟩, he⟩ : ∃ e, l[k] = e := ⟨_, rfl⟩
        rw [he] at c0 c1 c2 c3 HE HT hky
        clear he
        simp only at c0 c1 c2 c3 hky
        obtain ⟨L, hL⟩ : ∃ L, l.take k = L := ⟨_, rfl⟩
        rw [hL] at HE HT hkm
        have HL := Lib.hid hL
        rw [hL]
        clear hL
        obtain ⟨tl, htl⟩ : ∃ x, Pl.lastT L = x := ⟨_, rfl⟩
        rw [htl] at HE
        rw [htl]
        have HTL := Lib.hid htl
        clear htl
        obtain ⟨X0, X1, Xf, Xg, Xl⟩ := hbx
        go_wp2_with fail
        refine (check_any kd ky us tm tl L (w.heap.size + 1) k _ (hkm.below (by go_grown) hkm.lt) hky).mono ?_
        rw [← HE.out]
        obtain ⟨C, hC⟩ : ∃ C, Pl.evAt l k = C := ⟨_, rfl⟩
        have HC := Lib.hid hC
        rw [hC]
        rintro e w1 ⟨rfl, hb1⟩
        have B1 : Below w.heap.size w w1 := bcall (by go_grown) hb1 (by go_size)
        have s1 := B1.size
        have q1 : wr.heap.size + 1 ≤ w1.heap.size := by have h := hb1.size; first | omega | (simp at h; omega)
        have hkm1 := (hkm.below ((Below.refl _ _).alloc (Nat.le_refl _) (.cells #[.int .i64 kd, .int .i64 ky, .int .i64 us, .int .i64 tm] 34)) hkm.lt).below hb1 (by have := hkm.lt; simp; omega)
        have hkl := hkm1.lt
        obtain ⟨X0, X1, Xf, Xg, Xl⟩ := ((Box2.mk X0 X1 Xf Xg Xl).alloc (.cells #[.int .i64 kd, .int .i64 ky, .int .i64 us, .int .i64 tm] 34)).below hb1 (by simp; omega)
        have EB := (Blk.new wr [.int .i64 kd, .int .i64 ky, .int .i64 us, .int .i64 tm] 34 (g := wr.heap.size) (by go_size)).below hb1 (by go_size)
        have E0 := EB.c 0 _ rfl
        have E1 := EB.c 1 _ rfl
        have E2 := EB.c 2 _ rfl
        have E3 := EB.c 3 _ rfl
        have El := EB.lt
        clear hb1 hkm EB hbw
        by_cases hc0 : C = 0
        · subst hc0
          have hvl : Pl.Valid L := by
            rw [← HL.out]
            intro j hj
            rw [List.length_take] at hj
            have := hv.out j (by omega)
            unfold Pl.evAt at this ⊢
            rw [List.take_take, Nat.min_eq_left (by omega), List.getD_eq_getElem?_getD, List.getElem?_take_of_lt (by omega), ← List.getD_eq_getElem?_getD]
            exact this
          have hgood : Pl.Good L tl ⟨kd, ky, us, tm⟩ := Pl.evC_good.1 (by rw [← HE.out, HC.out])
          have HU := Lib.hid (show Pl.krAt l (l.length - (k + 1)) (k + 1) = F by rw [← hu.out, HS.out, if_pos hC])
          have HV := Lib.hid (show ∀ j, j < k + 1 → Pl.evAt l j = 0 from fun j hj => by
            by_cases h : j = k
            · rw [h]; exact hC
            · exact hv.out j (by omega))
          have hG := Lib.hid (show Pl.Good L (Pl.lastT L) ⟨kd, ky, us, tm⟩ by rw [HTL.out]; exact hgood)
          have HVL := Lib.hid hvl
          have hkd := hgood.kind
          simp only at hkd
          clear hC hgood hvl
          have DONE := Lib.hid (show ∀ (w2 : World), KM Try.prog 3 w2 (w.heap.size + 1) (k + 1) (L ++ [⟨kd, ky, us, tm⟩]) → KM Try.prog 3 w2 (w.heap.size + 1) (k + 1) (l.take (k + 1)) from fun w2 h => by rw [← HT.out]; exact h)
          have DONE2 := Lib.hid (show Pl.lastT (l.take (k + 1)) = tm by rw [← HT.out, Pl.lastT_snoc])
          rcases hkd with rfl | rfl
          · go_wp2_with (first | (at_lookup; refine wp_look rfl _ _ 53 rfl Try.underlying3 Try.underlying53 zeroL (hkm1.below (by go_grown) hkl) rfl rfl hky ?_) | (at_mapUpdate; refine wp_store rfl _ _ _ 53 rfl Try.underlying3 Try.underlying53 (hkm1.below (by go_grown) hkl) (by unfold maxLen; omega) HVL.out hG.out rfl rfl hky (L := (⟨us, tm, 0, false⟩ : Pl.Life)) (by simp [Pl.next]) rfl ?_; intro w2 hkm2 hg2))
            have BX := ((Box2.mk X0 X1 Xf Xg Xl).alloc (.cells #[.int .i64 ((⟨us, tm, 0, false⟩ : Pl.Life)).user, .int .i64 ((⟨us, tm, 0, false⟩ : Pl.Life)).start, .int .i64 ((⟨us, tm, 0, false⟩ : Pl.Life)).stop, .bool ((⟨us, tm, 0, false⟩ : Pl.Life)).gone] 57)).grown hg2 (by omega)
            go_roundw
            case rel => exact ⟨k + 1, hlt, by go_num, by rw [DONE2.out], HU, HV, DONE.out _ hkm2, BX, (Below.grown (by go_grown) hg2 (by go_size) (fun j hj => by cases hj; omega))⟩
            case measure => simp [intOf]; omega
          · go_wp2_with (first | (at_lookup; refine wp_look rfl _ _ 53 rfl Try.underlying3 Try.underlying53 zeroL (hkm1.below (by go_grown) hkl) rfl rfl hky ?_) | (at_mapUpdate; refine wp_store rfl _ _ _ 53 rfl Try.underlying3 Try.underlying53 (hkm1.below (by go_grown) hkl) (by unfold maxLen; omega) HVL.out hG.out rfl rfl hky (L := (⟨(Pl.lifeD L ky).user, (Pl.lifeD L ky).start, tm, true⟩ : Pl.Life)) (by simp [Pl.next]) rfl ?_; intro w2 hkm2 hg2))
            have BX := ((Box2.mk X0 X1 Xf Xg Xl).alloc (.cells #[.int .i64 ((⟨(Pl.lifeD L ky).user, (Pl.lifeD L ky).start, tm, true⟩ : Pl.Life)).user, .int .i64 ((⟨(Pl.lifeD L ky).user, (Pl.lifeD L ky).start, tm, true⟩ : Pl.Life)).start, .int .i64 ((⟨(Pl.lifeD L ky).user, (Pl.lifeD L ky).start, tm, true⟩ : Pl.Life)).stop, .bool ((⟨(Pl.lifeD L ky).user, (Pl.lifeD L ky).start, tm, true⟩ : Pl.Life)).gone] 57)).grown hg2 (by omega)
            go_roundw
            case rel => exact ⟨k + 1, hlt, by go_num, by rw [DONE2.out], HU, HV, DONE.out _ hkm2, BX, (Below.grown (by go_grown) hg2 (by go_size) (fun j hj => by cases hj; omega))⟩
            case measure => simp [intOf]; omega
        · have EF := Lib.hid (show F = (C, (k : Int)) by rw [← hu.out, HS.out, hC, if_neg hc0])
          have u1 : (C == 0) = false := by simp [hc0]
          have u2 : (C != 0) = true := by simp [hc0]
          replace hc0 := Lib.hid hc0
          clear hC
          go_wp2_with fail
          have RB := (Box2.mk X0 X1 Xf Xg Xl).set (.int .i64 C) (.int .i64 (k : Int))
          obtain ⟨RB0, RB1, -, -, -⟩ := RB
          refine bodyPost_ret (v := .tuple #[.map none, .agg #[.int .i64 C, .int .i64 (k : Int)]]) (by simp [results, Try.results22, go_sem, RB0, RB1]) rfl (fin.out _ _ (by go_grown) (.inl ⟨by rw [EF.out]; exact hc0.out, by rw [EF.out]⟩))
      · obtain rfl : k = l.length := by omega
        have EF := Lib.hid (show F = (0, 0) by rw [← hu.out, Pl.krAt_end])
        rw [List.take_length] at hkm
        have t1 : decide (l.length < l.length) = false := by simp
        obtain ⟨X0, X1, Xf, Xg, Xl⟩ := hbx
        have hkl := hkm.lt
        go_wp2_with fail
        have RB := (Box2.mk X0 X1 Xf Xg Xl).set (.int .i64 0) (.int .i64 0)
        obtain ⟨RB0, RB1, -, -, -⟩ := RB
        refine bodyPost_ret (v := .tuple #[.map (some (w.heap.size + 1)), .agg #[.int .i64 0, .int .i64 0]]) (by simp [results, Try.results22, go_sem, RB0, RB1]) rfl (fin.out _ _ (by go_grown) (.inr ⟨EF.out, _, rfl, by omega, (hkm.setCell (by show w.heap.size + 1 ≠ w.heap.size; omega) _).setCell (by show w.heap.size + 1 ≠ w.heap.size; omega) _⟩))
  · have hF : Pl.krF l = (2, -1) := by unfold Pl.krF; rw [if_neg hn]
    have hn' : decide (40 < l.length) = true := by simp; omega
    have hn2 : decide ((40 : Int) < (l.length : Int)) = true := by simp; omega
    have fin : ∀ w', Below w.heap.size w w' → ROpen 3 Try.prog l w (.returned (.tuple #[.map none, .agg #[.int .i64 2, .int .i64 (-1)]])) w' := fun w' h => ⟨h, .inl ⟨by rw [hF]; decide, by rw [hF]⟩⟩
    replace fin := Lib.hid fin
    clear hF
    go_enter Try.func22, Try.ntmps22
    go_wp2
    refine bodyPost_ret (v := .tuple #[.map none, .agg #[.int .i64 2, .int .i64 (-1)]]) (by simp [results, Try.results22, go_sem]) rfl (fin.out _ (by go_grown))
end Go.Proofs.Ytldepnabkdpokaa
