/- Contract: a term of a range is read, by the program. -/
import Derived.Test.YtjfkmbehckdjlaaGreatDoorMDma
import Derived.Test.YtjfkmbehckdjlaaGreatDoorDmb
import Derived.Test.YtjfkmbehckdjlaaGreatDoorDmc
import Derived.Test.YtjfkmbehckdjlaaGreatDoorDmd
import Derived.Test.YtjfkmbehckdjlaaGreatDoorDme
import Derived.Test.YtjfkmbehckdjlaaGreatDoorDmf
import Derived.Test.YtjfkmbehckdjlaaGreatDoorDmg
namespace Go.Proofs.YtjfkmbehckdjlaaGreatDoor
open Go.RowKit
theorem term_none (s : ByteArray) (w : World) (hs : s.size ≤ 9223372036854775807) (h42 : Pl.bsl s ≠ [42]) (hno : ∀ m (h : m < 7), ¬ Pl.opsL[m] <+: Pl.bsl s) : Calls Tryz.prog 64 #[.string s] w (RTerm (Pl.termP (Pl.bsl s)) w) := by
  obtain ⟨V, hV⟩ : ∃ V, Pl.termP (Pl.bsl s) = V := ⟨_, rfl⟩
  rw [hV]
  have HV := Lib.hid (show Pl.tryOps (Pl.bsl s) (Pl.opsL.drop 0) = V by unfold Pl.termP at hV; rwa [if_neg h42] at hV)
  have s0 : (s.toList == [42]) = false := by rw [beq_eq_false_iff_ne, ne_eq, ba_toList]; exact h42
  have HNO := Lib.hid hno
  have i0 := idxOp0
  have i1 := idxOp1
  have i2 := idxOp2
  have i3 := idxOp3
  have i4 := idxOp4
  have i5 := idxOp5
  have i6 := idxOp6
  clear hV h42 hno
  go_enter Tryz.func64, Tryz.ntmps64
  go_wp2_with fail
  go_loop [16] (fun i => ∃ m : Nat, m ≤ 7 ∧ i = .int .i64 (m : Int) ∧ Hid (Pl.tryOps (Pl.bsl s) (Pl.opsL.drop m) = V)) (fun i => 7 - (intOf i).toNat)
  case atStart => exact ⟨0, by decide, rfl, HV⟩
  case round =>
    obtain ⟨m, hj, rfl, hu⟩ := hrel
    clear HV
    match m, hj with
    | 0, _ =>
      have hp : ¬ [62, 61] <+: Pl.bsl s := HNO.out 0 (by decide)
      have E := Lib.hid (Pl.try_miss hp hu.out)
      have CC := Lib.hid (fun (W : World) => cutPrefix_miss s (⟨#[62, 61]⟩ : ByteArray) W hp hs (by decide))
      clear hp hu HNO
      go_wp2_with fail
      refine (CC.out _).mono ?_
      rintro e w' ⟨rfl, rfl⟩
      go_wp2_with fail
      go_round
      case rel => exact ⟨1, by decide, by go_num, E⟩
      case measure => simp [intOf]
    | 1, _ =>
      have hp : ¬ [60, 61] <+: Pl.bsl s := HNO.out 1 (by decide)
      have E := Lib.hid (Pl.try_miss hp hu.out)
      have CC := Lib.hid (fun (W : World) => cutPrefix_miss s (⟨#[60, 61]⟩ : ByteArray) W hp hs (by decide))
      clear hp hu HNO
      go_wp2_with fail
      refine (CC.out _).mono ?_
      rintro e w' ⟨rfl, rfl⟩
      go_wp2_with fail
      go_round
      case rel => exact ⟨2, by decide, by go_num, E⟩
      case measure => simp [intOf]
    | 2, _ =>
      have hp : ¬ [62] <+: Pl.bsl s := HNO.out 2 (by decide)
      have E := Lib.hid (Pl.try_miss hp hu.out)
      have CC := Lib.hid (fun (W : World) => cutPrefix_miss s (⟨#[62]⟩ : ByteArray) W hp hs (by decide))
      clear hp hu HNO
      go_wp2_with fail
      refine (CC.out _).mono ?_
      rintro e w' ⟨rfl, rfl⟩
      go_wp2_with fail
      go_round
      case rel => exact ⟨3, by decide, by go_num, E⟩
      case measure => simp [intOf]
    | 3, _ =>
      have hp : ¬ [60] <+: Pl.bsl s := HNO.out 3 (by decide)
      have E := Lib.hid (Pl.try_miss hp hu.out)
      have CC := Lib.hid (fun (W : World) => cutPrefix_miss s (⟨#[60]⟩ : ByteArray) W hp hs (by decide))
      clear hp hu HNO
      go_wp2_with fail
      refine (CC.out _).mono ?_
      rintro e w' ⟨rfl, rfl⟩
      go_wp2_with fail
      go_round
      case rel => exact ⟨4, by decide, by go_num, E⟩
      case measure => simp [intOf]
    | 4, _ =>
      have hp : ¬ [61] <+: Pl.bsl s := HNO.out 4 (by decide)
      have E := Lib.hid (Pl.try_miss hp hu.out)
      have CC := Lib.hid (fun (W : World) => cutPrefix_miss s (⟨#[61]⟩ : ByteArray) W hp hs (by decide))
      clear hp hu HNO
      go_wp2_with fail
      refine (CC.out _).mono ?_
      rintro e w' ⟨rfl, rfl⟩
      go_wp2_with fail
      go_round
      case rel => exact ⟨5, by decide, by go_num, E⟩
      case measure => simp [intOf]
    | 5, _ =>
      have hp : ¬ [94] <+: Pl.bsl s := HNO.out 5 (by decide)
      have E := Lib.hid (Pl.try_miss hp hu.out)
      have CC := Lib.hid (fun (W : World) => cutPrefix_miss s (⟨#[94]⟩ : ByteArray) W hp hs (by decide))
      clear hp hu HNO
      go_wp2_with fail
      refine (CC.out _).mono ?_
      rintro e w' ⟨rfl, rfl⟩
      go_wp2_with fail
      go_round
      case rel => exact ⟨6, by decide, by go_num, E⟩
      case measure => simp [intOf]
    | 6, _ =>
      have hp : ¬ [126] <+: Pl.bsl s := HNO.out 6 (by decide)
      have E := Lib.hid (Pl.try_miss hp hu.out)
      have CC := Lib.hid (fun (W : World) => cutPrefix_miss s (⟨#[126]⟩ : ByteArray) W hp hs (by decide))
      clear hp hu HNO
      go_wp2_with fail
      refine (CC.out _).mono ?_
      rintro e w' ⟨rfl, rfl⟩
      go_wp2_with fail
      go_round
      case rel => exact ⟨7, by decide, by go_num, E⟩
      case measure => simp [intOf]
    | 7, _ =>
      have EV : Hid (V = ([], 1)) := Lib.hid hu.out.symm
      go_wp2_with fail
      refine bodyPost_ret (v := .tuple #[.agg #[.slice none 0 0], .int .i64 1]) (by simp [results, Tryz.results64, go_sem]) rfl (RTerm.bad EV.out (by go_grown))
theorem term_any (s : ByteArray) (w : World) (E : Env w) (hs : s.size ≤ 9223372036854775807) : Calls Tryz.prog 64 #[.string s] w (RTerm (Pl.termR (Pl.bsl s)) w) := by
  rw [← Pl.term_same]
  by_cases h : Pl.bsl s = [42]
  · exact term_star s w h
  by_cases p0 : [62, 61] <+: Pl.bsl s
  · obtain ⟨t, ht⟩ := p0
    exact term_op0 s w E hs h (fun m hm hlt => by
      match m, hm with
      | n, _ => omega) t ht
  by_cases p1 : [60, 61] <+: Pl.bsl s
  · obtain ⟨t, ht⟩ := p1
    exact term_op1 s w E hs h (fun m hm hlt => by
      match m, hm with
      | 0, _ => exact p0
      | n + 1, _ => omega) t ht
  by_cases p2 : [62] <+: Pl.bsl s
  · obtain ⟨t, ht⟩ := p2
    exact term_op2 s w E hs h (fun m hm hlt => by
      match m, hm with
      | 0, _ => exact p0
      | 1, _ => exact p1
      | n + 2, _ => omega) t ht
  by_cases p3 : [60] <+: Pl.bsl s
  · obtain ⟨t, ht⟩ := p3
    exact term_op3 s w E hs h (fun m hm hlt => by
      match m, hm with
      | 0, _ => exact p0
      | 1, _ => exact p1
      | 2, _ => exact p2
      | n + 3, _ => omega) t ht
  by_cases p4 : [61] <+: Pl.bsl s
  · obtain ⟨t, ht⟩ := p4
    exact term_op4 s w E hs h (fun m hm hlt => by
      match m, hm with
      | 0, _ => exact p0
      | 1, _ => exact p1
      | 2, _ => exact p2
      | 3, _ => exact p3
      | n + 4, _ => omega) t ht
  by_cases p5 : [94] <+: Pl.bsl s
  · obtain ⟨t, ht⟩ := p5
    exact term_op5 s w E hs h (fun m hm hlt => by
      match m, hm with
      | 0, _ => exact p0
      | 1, _ => exact p1
      | 2, _ => exact p2
      | 3, _ => exact p3
      | 4, _ => exact p4
      | n + 5, _ => omega) t ht
  by_cases p6 : [126] <+: Pl.bsl s
  · obtain ⟨t, ht⟩ := p6
    exact term_op6 s w E hs h (fun m hm hlt => by
      match m, hm with
      | 0, _ => exact p0
      | 1, _ => exact p1
      | 2, _ => exact p2
      | 3, _ => exact p3
      | 4, _ => exact p4
      | 5, _ => exact p5
      | n + 6, _ => omega) t ht
  exact term_none s w hs h (fun m hm => by
      match m, hm with
      | 0, _ => exact p0
      | 1, _ => exact p1
      | 2, _ => exact p2
      | 3, _ => exact p3
      | 4, _ => exact p4
      | 5, _ => exact p5
      | 6, _ => exact p6
      | n + 7, hm => omega)
end Go.Proofs.YtjfkmbehckdjlaaGreatDoor
