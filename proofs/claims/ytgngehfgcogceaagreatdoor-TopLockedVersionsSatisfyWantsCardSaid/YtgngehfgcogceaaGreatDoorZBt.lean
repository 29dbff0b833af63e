/- Contract: a version is read, by the program. -/
import Derived.Test.YtgngehfgcogceaaGreatDoorZMBs
namespace Go.Proofs.YtgngehfgcogceaaGreatDoor
open Go.RowKit

set_option maxRecDepth 100000 in
set_option maxHeartbeats 4000000 in
theorem Parse_false (s : ByteArray) (w : World) (E : Env w) (h : s.size ≤ 80) (his : (Lib.cut (Pl.bsl s) [45]).2.2 = false) :
    Calls Tryz.prog 43 #[.string s] w (RVerF (Pl.parV s) (Pl.parF s) w) := by
  have HE := Lib.hid E
  have h80 : (s.size : Int) ≤ 80 := by omega
  obtain ⟨L, hL⟩ : ∃ L, Pl.bsl s = L := ⟨_, rfl⟩
  rw [hL] at his
  have lL : L.length ≤ 80 := by rw [← hL, Pl.bsl_len]; exact h
  obtain ⟨num, hnum⟩ : ∃ x, (Lib.cut L [45]).1 = x := ⟨_, rfl⟩
  obtain ⟨pre, hpre⟩ : ∃ x, (Lib.cut L [45]).2.1 = x := ⟨_, rfl⟩
  have ln : num.length ≤ 80 := by have := (Pl.cut_len L 45).1; rw [hnum] at this; omega
  have lp : pre.length ≤ 80 := by have := (Pl.cut_len L 45).2; rw [hpre] at this; omega
  obtain ⟨NUM, hNUM⟩ : ∃ x, Pl.mkS num = x := ⟨_, rfl⟩
  obtain ⟨PRE, hPRE⟩ : ∃ x, Pl.mkS pre = x := ⟨_, rfl⟩
  have CT := Lib.hid (show ∀ W, Env W → Calls Tryz.prog 64 #[.string s, .string (⟨#[45]⟩ : ByteArray)] W fun e w' => e = .returned (.tuple #[.string NUM, .string PRE, .bool false]) ∧ ∃ q, w' = W.drewN q from fun W e => by
    have := Cut_at s W (by omega) e
    rw [hL, hnum, hpre, his, hNUM, hPRE] at this
    exact this)
  have SN := Lib.hid (show ∀ W, Env W → Calls Tryz.prog 28 #[.string NUM, .string (⟨#[46]⟩ : ByteArray)] W fun e w' => e = .returned (.slice (some ⟨W.heap.size, 0, none⟩) (Lib.split num [46]).length (Lib.split num [46]).length) ∧ w' = W.alloc (.cells (strVals ((Lib.split num [46]).map Pl.mkS)).toArray 9) from fun W e => by
    have := Split_at NUM 46 W (by rw [← hNUM, Pl.mkS_size]; omega) e
    rw [← hNUM, Pl.bsl_mkS, hNUM] at this
    exact this)
  have SP := Lib.hid (show ∀ W, Env W → Calls Tryz.prog 28 #[.string PRE, .string (⟨#[46]⟩ : ByteArray)] W fun e w' => e = .returned (.slice (some ⟨W.heap.size, 0, none⟩) (Lib.split pre [46]).length (Lib.split pre [46]).length) ∧ w' = W.alloc (.cells (strVals ((Lib.split pre [46]).map Pl.mkS)).toArray 9) from fun W e => by
    have := Split_at PRE 46 W (by rw [← hPRE, Pl.mkS_size]; omega) e
    rw [← hPRE, Pl.bsl_mkS, hPRE] at this
    exact this)
  clear hNUM hPRE E
  next =>
    go_enter Tryz.func43, Tryz.ntmps43
    go_wp2_with fail
    refine (CT.out _ (HE.out.below (B := w.heap.size) (by go_grown) (Nat.le_refl _))).mono ?_
    rintro e w' ⟨rfl, q, rfl⟩
    have B1 : Below w.heap.size w ((((w.alloc (.cells #[.int .i64 0, .int .i64 0, .int .i64 0, .slice none 0 0] 48)).alloc (.cells #[.int .i64 0, .int .i64 0] 30)).alloc (.cells #[.int .i64 1, .int .i64 (-1)] 30)).drewN q) := below_drewN' (by go_grown) _
    have RB : Blk ((((w.alloc (.cells #[.int .i64 0, .int .i64 0, .int .i64 0, .slice none 0 0] 48)).alloc (.cells #[.int .i64 0, .int .i64 0] 30)).alloc (.cells #[.int .i64 1, .int .i64 (-1)] 30)).drewN q) w.heap.size [.int .i64 0, .int .i64 0, .int .i64 0, .slice none 0 0] := Blk.below (w := (((w.alloc (.cells #[.int .i64 0, .int .i64 0, .int .i64 0, .slice none 0 0] 48)).alloc (.cells #[.int .i64 0, .int .i64 0] 30)).alloc (.cells #[.int .i64 1, .int .i64 (-1)] 30))) (B := w.heap.size + 3) (((Blk.new _ [.int .i64 0, .int .i64 0, .int .i64 0, .slice none 0 0] 48 rfl).alloc _).alloc _) (below_drewN' (Below.refl _ _) _) (by omega)
    have FB : Box2 ((((w.alloc (.cells #[.int .i64 0, .int .i64 0, .int .i64 0, .slice none 0 0] 48)).alloc (.cells #[.int .i64 0, .int .i64 0] 30)).alloc (.cells #[.int .i64 1, .int .i64 (-1)] 30)).drewN q) (w.heap.size + 1) (.int .i64 0) (.int .i64 0) := Box2.below (w := (((w.alloc (.cells #[.int .i64 0, .int .i64 0, .int .i64 0, .slice none 0 0] 48)).alloc (.cells #[.int .i64 0, .int .i64 0] 30)).alloc (.cells #[.int .i64 1, .int .i64 (-1)] 30))) (B := w.heap.size + 3) ((Box2.newAt (by simp)).alloc _) (below_drewN' (Below.refl _ _) _) (by omega)
    have WB : Box2 ((((w.alloc (.cells #[.int .i64 0, .int .i64 0, .int .i64 0, .slice none 0 0] 48)).alloc (.cells #[.int .i64 0, .int .i64 0] 30)).alloc (.cells #[.int .i64 1, .int .i64 (-1)] 30)).drewN q) (w.heap.size + 1 + 1) (.int .i64 1) (.int .i64 (-1)) := Box2.below (w := (((w.alloc (.cells #[.int .i64 0, .int .i64 0, .int .i64 0, .slice none 0 0] 48)).alloc (.cells #[.int .i64 0, .int .i64 0] 30)).alloc (.cells #[.int .i64 1, .int .i64 (-1)] 30))) (B := w.heap.size + 3) (Box2.newAt (by simp)) (below_drewN' (Below.refl _ _) _) (by omega)
    have zs : w.heap.size + 3 ≤ ((((w.alloc (.cells #[.int .i64 0, .int .i64 0, .int .i64 0, .slice none 0 0] 48)).alloc (.cells #[.int .i64 0, .int .i64 0] 30)).alloc (.cells #[.int .i64 1, .int .i64 (-1)] 30)).drewN q).heap.size := by show _ ≤ ((((w.alloc (.cells #[.int .i64 0, .int .i64 0, .int .i64 0, .slice none 0 0] 48)).alloc (.cells #[.int .i64 0, .int .i64 0] 30)).alloc (.cells #[.int .i64 1, .int .i64 (-1)] 30))).heap.size; simp
    generalize ((((w.alloc (.cells #[.int .i64 0, .int .i64 0, .int .i64 0, .slice none 0 0] 48)).alloc (.cells #[.int .i64 0, .int .i64 0] 30)).alloc (.cells #[.int .i64 1, .int .i64 (-1)] 30))).drewN q = W1 at *
    go_wp2_with fail
    refine (SN.out _ (by exact HE.out.below (B := w.heap.size) (by go_grown) (Nat.le_refl _))).mono ?_
    rintro e w' ⟨rfl, rfl⟩
    simp only [World.size_alloc]
    by_cases h3 : (Lib.split num [46]).length = 3
    · obtain ⟨x0, x1, x2, hsp⟩ : ∃ x0 x1 x2, Lib.split num [46] = [x0, x1, x2] := list3 h3
      have PT := Lib.hid (Pl.prog_try (s := L) (by rw [hnum]; exact hsp))
      rw [his, hpre] at PT
      have sz := Pl.split_size num 46
      rw [hsp] at sz ⊢
      obtain ⟨n0, hn0⟩ : ∃ n, Pl.atoiV x0 = n := ⟨_, rfl⟩
      obtain ⟨n1, hn1⟩ : ∃ n, Pl.atoiV x1 = n := ⟨_, rfl⟩
      obtain ⟨n2, hn2⟩ : ∃ n, Pl.atoiV x2 = n := ⟨_, rfl⟩
      obtain ⟨S0, hS0⟩ : ∃ n, Pl.mkS x0 = n := ⟨_, rfl⟩
      obtain ⟨S1, hS1⟩ : ∃ n, Pl.mkS x1 = n := ⟨_, rfl⟩
      obtain ⟨S2, hS2⟩ : ∃ n, Pl.mkS x2 = n := ⟨_, rfl⟩
      have A0 := Lib.hid (atoi_at hS0 hn0 (by have := sz x0 (by simp); omega))
      have A1 := Lib.hid (atoi_at hS1 hn1 (by have := sz x1 (by simp); omega))
      have A2 := Lib.hid (atoi_at hS2 hn2 (by have := sz x2 (by simp); omega))
      rw [hn0, hn1, hn2] at PT
      rw [show strVals ([x0, x1, x2].map Pl.mkS) = [.string S0, .string S1, .string S2] by simp [strVals, hS0, hS1, hS2]]
      simp only [List.length_cons, List.length_nil]
      have psz := Lib.hid (Pl.split_size pre 46)
      have pln := Lib.hid (Pl.split_len pre 46)
      have HLs := Lib.hid hL
      clear sz hn0 hn1 hn2 hS0 hS1 hS2 hsp h3 hnum hpre his hL
      go_wp2_with fail
      have RB2 := ((RB.alloc (.cells #[.int .i64 0, .int .i64 0, .int .i64 0, .slice none 0 0] 48)).alloc (.cells #[.string S0, .string S1, .string S2] 9)).alloc (.cells #[.pointer (some ⟨W1.heap.size, 0, none⟩), .pointer (some ⟨W1.heap.size, 1, none⟩), .pointer (some ⟨W1.heap.size, 2, none⟩)] 136)
      have FB2 := ((FB.alloc (.cells #[.int .i64 0, .int .i64 0, .int .i64 0, .slice none 0 0] 48)).alloc (.cells #[.string S0, .string S1, .string S2] 9)).alloc (.cells #[.pointer (some ⟨W1.heap.size, 0, none⟩), .pointer (some ⟨W1.heap.size, 1, none⟩), .pointer (some ⟨W1.heap.size, 2, none⟩)] 136)
      have WB2 := ((WB.alloc (.cells #[.int .i64 0, .int .i64 0, .int .i64 0, .slice none 0 0] 48)).alloc (.cells #[.string S0, .string S1, .string S2] 9)).alloc (.cells #[.pointer (some ⟨W1.heap.size, 0, none⟩), .pointer (some ⟨W1.heap.size, 1, none⟩), .pointer (some ⟨W1.heap.size, 2, none⟩)] 136)
      have VB2 : Blk (((W1.alloc (.cells #[.int .i64 0, .int .i64 0, .int .i64 0, .slice none 0 0] 48)).alloc (.cells #[.string S0, .string S1, .string S2] 9)).alloc (.cells #[.pointer (some ⟨W1.heap.size, 0, none⟩), .pointer (some ⟨W1.heap.size, 1, none⟩), .pointer (some ⟨W1.heap.size, 2, none⟩)] 136)) W1.heap.size (pcJ n0 n1 n2 (.slice none 0 0) 0) := ((Blk.new _ [.int .i64 0, .int .i64 0, .int .i64 0, .slice none 0 0] 48 rfl).alloc _).alloc _
      have NB2 : Blk (((W1.alloc (.cells #[.int .i64 0, .int .i64 0, .int .i64 0, .slice none 0 0] 48)).alloc (.cells #[.string S0, .string S1, .string S2] 9)).alloc (.cells #[.pointer (some ⟨W1.heap.size, 0, none⟩), .pointer (some ⟨W1.heap.size, 1, none⟩), .pointer (some ⟨W1.heap.size, 2, none⟩)] 136)) (W1.heap.size + 1) [.string S0, .string S1, .string S2] := ((Blk.new _ _ 9 (by simp))).alloc _
      have TB2 : Blk (((W1.alloc (.cells #[.int .i64 0, .int .i64 0, .int .i64 0, .slice none 0 0] 48)).alloc (.cells #[.string S0, .string S1, .string S2] 9)).alloc (.cells #[.pointer (some ⟨W1.heap.size, 0, none⟩), .pointer (some ⟨W1.heap.size, 1, none⟩), .pointer (some ⟨W1.heap.size, 2, none⟩)] 136)) (W1.heap.size + 1 + 1) [.pointer (some ⟨W1.heap.size, 0, none⟩), .pointer (some ⟨W1.heap.size, 1, none⟩), .pointer (some ⟨W1.heap.size, 2, none⟩)] := Blk.new _ _ 136 (by simp)
      have SL2 : Sl (((W1.alloc (.cells #[.int .i64 0, .int .i64 0, .int .i64 0, .slice none 0 0] 48)).alloc (.cells #[.string S0, .string S1, .string S2] 9)).alloc (.cells #[.pointer (some ⟨W1.heap.size, 0, none⟩), .pointer (some ⟨W1.heap.size, 1, none⟩), .pointer (some ⟨W1.heap.size, 2, none⟩)] 136)) none ([] : List ByteArray).length 0 1 (strVals ([] : List ByteArray)) := Sl.nil _ _
      have B2 : Below w.heap.size w (((W1.alloc (.cells #[.int .i64 0, .int .i64 0, .int .i64 0, .slice none 0 0] 48)).alloc (.cells #[.string S0, .string S1, .string S2] 9)).alloc (.cells #[.pointer (some ⟨W1.heap.size, 0, none⟩), .pointer (some ⟨W1.heap.size, 1, none⟩), .pointer (some ⟨W1.heap.size, 2, none⟩)] 136)) := by go_grown
      have z2 : W1.heap.size + 3 ≤ ((((W1.alloc (.cells #[.int .i64 0, .int .i64 0, .int .i64 0, .slice none 0 0] 48)).alloc (.cells #[.string S0, .string S1, .string S2] 9)).alloc (.cells #[.pointer (some ⟨W1.heap.size, 0, none⟩), .pointer (some ⟨W1.heap.size, 1, none⟩), .pointer (some ⟨W1.heap.size, 2, none⟩)] 136))).heap.size := by simp
      clear RB FB WB
      generalize (((W1.alloc (.cells #[.int .i64 0, .int .i64 0, .int .i64 0, .slice none 0 0] 48)).alloc (.cells #[.string S0, .string S1, .string S2] 9)).alloc (.cells #[.pointer (some ⟨W1.heap.size, 0, none⟩), .pointer (some ⟨W1.heap.size, 1, none⟩), .pointer (some ⟨W1.heap.size, 2, none⟩)] 136)) = W2 at *
      go_loopw [42] (fun x wr => PLoop w W1.heap.size (W1.heap.size + 1) (W1.heap.size + 1 + 1) n0 n1 n2 (.slice none 0 0) S0 S1 S2 none ([] : List ByteArray) 0 x wr) (fun x _ => 3 - (intOf x).toNat)
      case atStart => exact ⟨0, by decide, rfl, B2, z2, ⟨RB2, FB2, WB2, VB2, NB2, TB2, SL2⟩⟩
      case round =>
        obtain ⟨j, hj, rfl, hbw, zw, HB⟩ := hrel
        have zw2 : W1.heap.size + 3 ≤ wr.heap.size := zw
        have e26 : W1.heap.size < wr.heap.size := by omega
        match j, hj with
        | 0, _ =>
          obtain ⟨RB, FB, WB, VB, NB, TB, SL⟩ := HB.out
          have e0 := TB.c 0 _ rfl
          have e1 := NB.c 0 _ rfl
          go_wp2_with fail
          refine (A0.out _ (HE.out.below hbw (Nat.le_refl _))).mono ?_
          rintro e w5 ⟨er, rfl, hb5⟩
          have B5 : Below w.heap.size w w5 := bcall hbw hb5 hbw.size
          have RB5 := RB.below hb5 RB.lt
          have FB5 := FB.below hb5 FB.lt
          have WB5 := WB.below hb5 WB.lt
          have VB5 := VB.below hb5 VB.lt
          have NB5 := NB.below hb5 NB.lt
          have TB5 := TB.below hb5 TB.lt
          have SL5 := SL.below hb5 (Nat.le_refl _)
          have z5 := hb5.size
          clear hb5 RB FB WB VB NB TB SL e0 e1 HB
          have e2 := VB5.c 0 _ rfl
          have e3 := VB5.f 0 (by simp [pcJ])
          have e4 := VB5.lt
          go_wp2_with fail
          go_roundw
          case rel =>
            have H : PLoop w W1.heap.size (W1.heap.size + 1) (W1.heap.size + 1 + 1) n0 n1 n2 (.slice none 0 0) S0 S1 S2 none ([] : List ByteArray) 0 (.int .i64 1) (w5.setCell ⟨W1.heap.size, 0, none⟩ (.int .i64 n0)) := ⟨1, by decide, by go_num, B5.setCell (by dsimp only; omega) _, by rw [World.size_setCell]; omega, ⟨RB5.far (by dsimp only; omega) _, FB5.far (by dsimp only; omega) _, WB5.far (by dsimp only; omega) _, VB5.set (k := 0) (by simp [pcJ]) (.int .i64 n0), NB5.far (by dsimp only; omega) _, TB5.far (by dsimp only; omega) _, Sl_far SL5 (by intro b off h; cases h) _⟩⟩
            first | exact H | ((repeat apply Exists.intro); exact ⟨H, rfl⟩)
          case measure => simp [intOf]
        | 1, _ =>
          obtain ⟨RB, FB, WB, VB, NB, TB, SL⟩ := HB.out
          have e0 := TB.c 1 _ rfl
          have e1 := NB.c 1 _ rfl
          go_wp2_with fail
          refine (A1.out _ (HE.out.below hbw (Nat.le_refl _))).mono ?_
          rintro e w5 ⟨er, rfl, hb5⟩
          have B5 : Below w.heap.size w w5 := bcall hbw hb5 hbw.size
          have RB5 := RB.below hb5 RB.lt
          have FB5 := FB.below hb5 FB.lt
          have WB5 := WB.below hb5 WB.lt
          have VB5 := VB.below hb5 VB.lt
          have NB5 := NB.below hb5 NB.lt
          have TB5 := TB.below hb5 TB.lt
          have SL5 := SL.below hb5 (Nat.le_refl _)
          have z5 := hb5.size
          clear hb5 RB FB WB VB NB TB SL e0 e1 HB
          have e2 := VB5.c 1 _ rfl
          have e3 := VB5.f 1 (by simp [pcJ])
          have e4 := VB5.lt
          go_wp2_with fail
          go_roundw
          case rel =>
            have H : PLoop w W1.heap.size (W1.heap.size + 1) (W1.heap.size + 1 + 1) n0 n1 n2 (.slice none 0 0) S0 S1 S2 none ([] : List ByteArray) 0 (.int .i64 2) (w5.setCell ⟨W1.heap.size, 1, none⟩ (.int .i64 n1)) := ⟨2, by decide, by go_num, B5.setCell (by dsimp only; omega) _, by rw [World.size_setCell]; omega, ⟨RB5.far (by dsimp only; omega) _, FB5.far (by dsimp only; omega) _, WB5.far (by dsimp only; omega) _, VB5.set (k := 1) (by simp [pcJ]) (.int .i64 n1), NB5.far (by dsimp only; omega) _, TB5.far (by dsimp only; omega) _, Sl_far SL5 (by intro b off h; cases h) _⟩⟩
            first | exact H | ((repeat apply Exists.intro); exact ⟨H, rfl⟩)
          case measure => simp [intOf]
        | 2, _ =>
          obtain ⟨RB, FB, WB, VB, NB, TB, SL⟩ := HB.out
          have e0 := TB.c 2 _ rfl
          have e1 := NB.c 2 _ rfl
          go_wp2_with fail
          refine (A2.out _ (HE.out.below hbw (Nat.le_refl _))).mono ?_
          rintro e w5 ⟨er, rfl, hb5⟩
          have B5 : Below w.heap.size w w5 := bcall hbw hb5 hbw.size
          have RB5 := RB.below hb5 RB.lt
          have FB5 := FB.below hb5 FB.lt
          have WB5 := WB.below hb5 WB.lt
          have VB5 := VB.below hb5 VB.lt
          have NB5 := NB.below hb5 NB.lt
          have TB5 := TB.below hb5 TB.lt
          have SL5 := SL.below hb5 (Nat.le_refl _)
          have z5 := hb5.size
          clear hb5 RB FB WB VB NB TB SL e0 e1 HB
          have e2 := VB5.c 2 _ rfl
          have e3 := VB5.f 2 (by simp [pcJ])
          have e4 := VB5.lt
          go_wp2_with fail
          go_roundw
          case rel =>
            have H : PLoop w W1.heap.size (W1.heap.size + 1) (W1.heap.size + 1 + 1) n0 n1 n2 (.slice none 0 0) S0 S1 S2 none ([] : List ByteArray) 0 (.int .i64 3) (w5.setCell ⟨W1.heap.size, 2, none⟩ (.int .i64 n2)) := ⟨3, by decide, by go_num, B5.setCell (by dsimp only; omega) _, by rw [World.size_setCell]; omega, ⟨RB5.far (by dsimp only; omega) _, FB5.far (by dsimp only; omega) _, WB5.far (by dsimp only; omega) _, VB5.set (k := 2) (by simp [pcJ]) (.int .i64 n2), NB5.far (by dsimp only; omega) _, TB5.far (by dsimp only; omega) _, Sl_far SL5 (by intro b off h; cases h) _⟩⟩
            first | exact H | ((repeat apply Exists.intro); exact ⟨H, rfl⟩)
          case measure => simp [intOf]
        | 3, _ =>
          obtain ⟨RB, FB, WB, VB, NB, TB, SL⟩ := HB.out
          have VB : Blk wr W1.heap.size [.int .i64 n0, .int .i64 n1, .int .i64 n2, .slice none 0 0] := VB
          have ss : ∀ x ∈ ([] : List ByteArray), x.size ≤ 9223372036854775807 := by intro x hx; cases hx
          obtain ⟨v, hv⟩ : ∃ v, v = (⟨n0, n1, n2, ([] : List ByteArray)⟩ : Pl.Ver) := ⟨_, rfl⟩
          have hvv : verV v none 0 = .agg #[.int .i64 n0, .int .i64 n1, .int .i64 n2, .slice none 0 0] := by rw [hv]; simp [verV]
          have vin : VIn wr v none 0 := by rw [hv]; exact ⟨SL, ss⟩
          have PV : Pl.progParse L = if (Pl.vrF v).1 = 0 ∧ Pl.verT v = L then some v else none := by rw [hv]; simpa using PT.out
          have ct := Format_any v none 0 wr vin (HE.out.below hbw (Nat.le_refl _))
          rw [hvv] at ct
          have HVV := Lib.hid hvv
          have SS := Lib.hid ss
          have HV := Lib.hid vin
          have e0 := VB.c 0 _ rfl
          have e1 := VB.c 1 _ rfl
          have e2 := VB.c 2 _ rfl
          have e3 := VB.c 3 _ rfl
          clear NB TB SL vin hv hvv ss HB
          by_cases hF : (Pl.vrF v).1 = 0 ∧ Pl.verT v = L
          · obtain ⟨g1, g2⟩ := Pl.par_some h (by rw [HLs.out, PV, if_pos hF])
            have F1 := Lib.hid g1
            have F2 := Lib.hid g2
            have f0 : Pl.vrF v = (0, 0) := by
              rcases Pl.vrF_cases v with ⟨f, -⟩ | f
              · exact f
              · exact absurd hF.1 f
            have hT : Pl.fmtV v = s := by unfold Pl.fmtV; rw [f0, if_neg (by decide), hF.2, ← HLs.out, Pl.mkS_bsl]
            rw [f0, hT] at ct
            simp only [fltV] at ct
            have CF := Lib.hid ct
            clear ct f0 hT hF PV g1 g2
            go_wp2_with fail
            refine CF.out.mono ?_
            rintro e w6 ⟨rfl, hb6⟩
            have B6 : Below w.heap.size w w6 := bcall hbw hb6 hbw.size
            have RB6 := RB.below hb6 RB.lt
            have FB6 := FB.below hb6 FB.lt
            have VB6 := VB.below hb6 VB.lt
            have VI := Lib.hid (HV.out.below hb6 (Nat.le_refl _))
            have z6 := hb6.size
            clear hb6 RB FB WB VB e0 e1 e2 e3 HV
            have e0 := VB6.c 0 _ rfl
            have e1 := VB6.c 1 _ rfl
            have e2 := VB6.c 2 _ rfl
            have e3 := VB6.c 3 _ rfl
            have e4 := VB6.lt
            have g0 := RB6.c 0 _ rfl
            have g1 := RB6.c 1 _ rfl
            have g2 := RB6.c 2 _ rfl
            have g3 := RB6.c 3 _ rfl
            have g4 := RB6.f 0 (by simp)
            have g5 := RB6.f 1 (by simp)
            have g6 := RB6.f 2 (by simp)
            have g7 := RB6.f 3 (by simp)
            have g8 := RB6.lt
            obtain ⟨k0, k1, k2, k3, k4⟩ := FB6
            dsimp only
            iterate 73 (first | go_values | go_skip | go_guarded | go_step | go_upon)
            have FB6 := Box2.mk k0 k1 k2 k3 k4
            have RB7 := (((((((RB6.set (k := 0) (by simp) (.int .i64 n0)).set (k := 1) (by simp) (.int .i64 n1)).set (k := 2) (by simp) (.int .i64 n2)).set (k := 3) (by simp) (.slice none 0 0)).far (a := ⟨w.heap.size + 1, 0, none⟩) (by dsimp only; omega) (.int .i64 0)).far (a := ⟨w.heap.size + 1, 1, none⟩) (by dsimp only; omega) (.int .i64 0)).alloc (.cells #[.int .i64 0, .int .i64 0] 30))
            have FB7 := ((((((FB6.far (a := ⟨w.heap.size, 0, none⟩) (by dsimp only; omega) (.int .i64 n0)).far (a := ⟨w.heap.size, 1, none⟩) (by dsimp only; omega) (.int .i64 n1)).far (a := ⟨w.heap.size, 2, none⟩) (by dsimp only; omega) (.int .i64 n2)).far (a := ⟨w.heap.size, 3, none⟩) (by dsimp only; omega) (.slice none 0 0)).set (.int .i64 0) (.int .i64 0)).alloc (.cells #[.int .i64 0, .int .i64 0] 30))
            have r0 := RB7.c 0 _ rfl
            have r1 := RB7.c 1 _ rfl
            have r2 := RB7.c 2 _ rfl
            have r3 := RB7.c 3 _ rfl
            obtain ⟨r4, r5, -, -, -⟩ := FB7
            refine bodyPost_ret (v := .tuple #[.agg #[.int .i64 n0, .int .i64 n1, .int .i64 n2, .slice none 0 0], .agg #[.int .i64 0, .int .i64 0]]) (by simp [results, Tryz.results43, go_sem, r0, r1, r2, r3, r4, r5]) rfl ?_
            rw [F1.out, F2.out]
            refine ⟨none, 0, by rw [HVV.out], ⟨?_, VI.out.ss⟩, by go_grown⟩
            exact ((Sl_far (a := ⟨w.heap.size + 1, 1, none⟩) (Sl_far (a := ⟨w.heap.size + 1, 0, none⟩) (Sl_far (a := ⟨w.heap.size, 3, none⟩) (Sl_far (a := ⟨w.heap.size, 2, none⟩) (Sl_far (a := ⟨w.heap.size, 1, none⟩) (Sl_far (a := ⟨w.heap.size, 0, none⟩) VI.out.sl (by intro b off h; cases h) (.int .i64 n0)) (by intro b off h; cases h) (.int .i64 n1)) (by intro b off h; cases h) (.int .i64 n2)) (by intro b off h; cases h) (.slice none 0 0)) (by intro b off h; cases h) (.int .i64 0)) (by intro b off h; cases h) (.int .i64 0)).below (B := w6.heap.size) (by go_grown) (by simp))
          · obtain ⟨g1, g2⟩ := Pl.par_none h (by rw [HLs.out, PV, if_neg hF])
            have F1 := Lib.hid g1
            have F2 := Lib.hid g2
            clear g1 g2 PV
            obtain ⟨T, f1, f2, hcase, hct⟩ : ∃ (T : ByteArray) (f1 f2 : Int), ((f1 != 0) = true ∧ (f1 == 0) = false ∨ ((f1 == 0) = true ∧ (f1 != 0) = false ∧ f2 = 0 ∧ (T.toList != s.toList) = true ∧ (T.toList == s.toList) = false)) ∧ Calls Tryz.prog 12 #[.agg #[.int .i64 n0, .int .i64 n1, .int .i64 n2, .slice none 0 0]] wr fun e w' => e = .returned (.tuple #[.string T, .agg #[.int .i64 f1, .int .i64 f2]]) ∧ Below wr.heap.size wr w' := by
              refine ⟨Pl.fmtV v, (Pl.vrF v).1, (Pl.vrF v).2, ?_, ct⟩
              rcases Pl.vrF_cases v with ⟨f, -⟩ | f
              · right
                have hne : Pl.fmtV v ≠ s := fun e => hF ⟨by rw [f], by
                  unfold Pl.fmtV at e
                  rw [f, if_neg (by decide)] at e
                  rw [← HLs.out, ← e, Pl.bsl_mkS]⟩
                rw [f]
                refine ⟨rfl, rfl, rfl, ?_, ?_⟩
                · simpa [Pl.toList_eq] using hne
                · simpa [Pl.toList_eq] using hne
              · exact .inl ⟨bneT f, beqF f⟩
            have CF := Lib.hid hct
            clear ct hct hF
            rcases hcase with ⟨u1, u2⟩ | ⟨u1, u2, rfl, u3, u4⟩
            · go_wp2_with fail
              refine CF.out.mono ?_
              rintro e w6 ⟨rfl, hb6⟩
              have B6 : Below w.heap.size w w6 := bcall hbw hb6 hbw.size
              have RB6 := RB.below hb6 RB.lt
              have FB6 := FB.below hb6 FB.lt
              have WB6 := WB.below hb6 WB.lt
              clear hb6 RB FB WB VB e0 e1 e2 e3 HV
              have s6 := B6.size
              have gR := RB6.lt
              have gF := FB6.lt
              obtain ⟨k0, k1, k2, k3, k4⟩ := WB6
              go_wp2_with fail
              have WB6 := Box2.mk k0 k1 k2 k3 k4
              clear k0 k1 k2 k3 k4
              have ZB := (RB6.alloc (.cells #[.int .i64 f1, .int .i64 f2] 30)).drew
              have baB := (FB6.alloc (.cells #[.int .i64 f1, .int .i64 f2] 30)).drew
              have bbB := (WB6.alloc (.cells #[.int .i64 f1, .int .i64 f2] 30)).drew
              have BW : Below w.heap.size w (w6.alloc (.cells #[.int .i64 f1, .int .i64 f2] 30)).drew := by go_grown
              have nz : w.heap.size + 1 + 1 ≠ w.heap.size := by omega
              refine wp_region_ordD [(2, w.heap.size), (3, w.heap.size + 1)] [0, 1, 2, 3] (by kernel_rfl) (by kernel_rfl) ?_
              generalize (w6.alloc (.cells #[.int .i64 f1, .int .i64 f2] 30)).drew = W at *
              have Z0 := ZB.c 0 _ rfl
              have Zf0 := ZB.f 0 (Nat.le_of_ble_eq_true rfl)
              have Z1 := ZB.c 1 _ rfl
              have Zf1 := ZB.f 1 (Nat.le_of_ble_eq_true rfl)
              have Z2 := ZB.c 2 _ rfl
              have Zf2 := ZB.f 2 (Nat.le_of_ble_eq_true rfl)
              have Z3 := ZB.c 3 _ rfl
              have Zf3 := ZB.f 3 (Nat.le_of_ble_eq_true rfl)
              have Zl := ZB.lt
              obtain ⟨ba0, ba1, baf, bag, bal⟩ := baB
              obtain ⟨bb0, bb1, bbf, bbg, bbl⟩ := bbB
              repeat (refine wpD_pure rfl rfl ?_; go_big_quiet_step (fail); refine wpQuiet_nil ?_)
              refine wpD_rd [w.heap.size] (by kernel_rfl) rfl rfl ?_; go_big_quiet_step (fail); refine wpQuiet_nil ?_
              try simp only [Act.put, List.setIfInBounds_toArray, List.set_cons_zero, List.set_cons_succ]
              refine wpD_st rfl rfl rfl (w' := W) (by simp [go_sem, Z0, Z1, Z2, Z3, Zf0, Zf1, Zf2, Zf3]; simp [setCell_id, Z0, Z1, Z2, Z3]) (ExtD.refl _ _) ?_
              try simp only [Act.put]
              refine wpD_st rfl rfl rfl (by simp [go_sem, ba0, ba1, baf, bag]; rfl) (((ExtD.refl _ _).setCell (by exact List.mem_singleton.2 rfl) _).setCell (by exact List.mem_singleton.2 rfl) _) ?_
              refine wpD_nil ?_
              try simp only [Act.put]
              go_wp2_with fail
              refine bodyPost_ret (v := .tuple #[.agg #[.int .i64 0, .int .i64 0, .int .i64 0, .slice none 0 0], .agg #[.int .i64 1, .int .i64 (-1)]]) (by simp [results, Tryz.results43, go_sem, Z0, Z1, Z2, Z3, ba0, ba1]) rfl ?_
              rw [F1.out, F2.out]
              exact ⟨none, 0, rfl, VIn.zero _, by go_grown⟩
            · go_wp2_with fail
              refine CF.out.mono ?_
              rintro e w6 ⟨rfl, hb6⟩
              have B6 : Below w.heap.size w w6 := bcall hbw hb6 hbw.size
              have RB6 := RB.below hb6 RB.lt
              have FB6 := FB.below hb6 FB.lt
              have WB6 := WB.below hb6 WB.lt
              clear hb6 RB FB WB VB e0 e1 e2 e3 HV
              have s6 := B6.size
              have gR := RB6.lt
              have gF := FB6.lt
              obtain ⟨k0, k1, k2, k3, k4⟩ := WB6
              go_wp2_with fail
              have WB6 := Box2.mk k0 k1 k2 k3 k4
              clear k0 k1 k2 k3 k4
              have ZB := (RB6.alloc (.cells #[.int .i64 f1, .int .i64 0] 30)).drew
              have baB := (FB6.alloc (.cells #[.int .i64 f1, .int .i64 0] 30)).drew
              have bbB := (WB6.alloc (.cells #[.int .i64 f1, .int .i64 0] 30)).drew
              have BW : Below w.heap.size w (w6.alloc (.cells #[.int .i64 f1, .int .i64 0] 30)).drew := by go_grown
              have nz : w.heap.size + 1 + 1 ≠ w.heap.size := by omega
              refine wp_region_ordD [(2, w.heap.size), (3, w.heap.size + 1)] [0, 1, 2, 3] (by kernel_rfl) (by kernel_rfl) ?_
              generalize (w6.alloc (.cells #[.int .i64 f1, .int .i64 0] 30)).drew = W at *
              have Z0 := ZB.c 0 _ rfl
              have Zf0 := ZB.f 0 (Nat.le_of_ble_eq_true rfl)
              have Z1 := ZB.c 1 _ rfl
              have Zf1 := ZB.f 1 (Nat.le_of_ble_eq_true rfl)
              have Z2 := ZB.c 2 _ rfl
              have Zf2 := ZB.f 2 (Nat.le_of_ble_eq_true rfl)
              have Z3 := ZB.c 3 _ rfl
              have Zf3 := ZB.f 3 (Nat.le_of_ble_eq_true rfl)
              have Zl := ZB.lt
              obtain ⟨ba0, ba1, baf, bag, bal⟩ := baB
              obtain ⟨bb0, bb1, bbf, bbg, bbl⟩ := bbB
              repeat (refine wpD_pure rfl rfl ?_; go_big_quiet_step (fail); refine wpQuiet_nil ?_)
              refine wpD_rd [w.heap.size] (by kernel_rfl) rfl rfl ?_; go_big_quiet_step (fail); refine wpQuiet_nil ?_
              try simp only [Act.put, List.setIfInBounds_toArray, List.set_cons_zero, List.set_cons_succ]
              refine wpD_st rfl rfl rfl (w' := W) (by simp [go_sem, Z0, Z1, Z2, Z3, Zf0, Zf1, Zf2, Zf3]; simp [setCell_id, Z0, Z1, Z2, Z3]) (ExtD.refl _ _) ?_
              try simp only [Act.put]
              refine wpD_st rfl rfl rfl (by simp [go_sem, ba0, ba1, baf, bag]; rfl) (((ExtD.refl _ _).setCell (by exact List.mem_singleton.2 rfl) _).setCell (by exact List.mem_singleton.2 rfl) _) ?_
              refine wpD_nil ?_
              try simp only [Act.put]
              go_wp2_with fail
              refine bodyPost_ret (v := .tuple #[.agg #[.int .i64 0, .int .i64 0, .int .i64 0, .slice none 0 0], .agg #[.int .i64 1, .int .i64 (-1)]]) (by simp [results, Tryz.results43, go_sem, Z0, Z1, Z2, Z3, ba0, ba1]) rfl ?_
              rw [F1.out, F2.out]
              exact ⟨none, 0, rfl, VIn.zero _, by go_grown⟩
    · have u1 := bneT (show ((Lib.split num [46]).length : Int) ≠ 3 by omega)
      have u2 := beqF (show ((Lib.split num [46]).length : Int) ≠ 3 by omega)
      obtain ⟨E1, E2⟩ := Pl.par_none h (by rw [hL]; exact Pl.prog_none1 (by rw [hnum]; exact h3))
      have F1 := Lib.hid E1
      have F2 := Lib.hid E2
      have K3 := Lib.hid h3
      clear h3 E1 E2
      obtain ⟨k0, k1, k2, k3, k4⟩ := WB
      go_wp2_with fail
      have WB := Box2.mk k0 k1 k2 k3 k4
      have ZB := (((RB.alloc (.cells #[.int .i64 0, .int .i64 0, .int .i64 0, .slice none 0 0] 48)).alloc (.cells (strVals ((Lib.split num [46]).map Pl.mkS)).toArray 9))).drew
      have baB := (((FB.alloc (.cells #[.int .i64 0, .int .i64 0, .int .i64 0, .slice none 0 0] 48)).alloc (.cells (strVals ((Lib.split num [46]).map Pl.mkS)).toArray 9))).drew
      have bbB := (((WB.alloc (.cells #[.int .i64 0, .int .i64 0, .int .i64 0, .slice none 0 0] 48)).alloc (.cells (strVals ((Lib.split num [46]).map Pl.mkS)).toArray 9))).drew
      have BW : Below w.heap.size w ((W1.alloc (.cells #[.int .i64 0, .int .i64 0, .int .i64 0, .slice none 0 0] 48)).alloc (.cells (strVals ((Lib.split num [46]).map Pl.mkS)).toArray 9)).drew := by go_grown
      have nz : w.heap.size + 1 + 1 ≠ w.heap.size := by omega
      refine wp_region_ordD [(2, w.heap.size), (3, w.heap.size + 1)] [0, 1, 2, 3] (by kernel_rfl) (by kernel_rfl) ?_
      generalize ((W1.alloc (.cells #[.int .i64 0, .int .i64 0, .int .i64 0, .slice none 0 0] 48)).alloc (.cells (strVals ((Lib.split num [46]).map Pl.mkS)).toArray 9)).drew = W at *
      have Z0 := ZB.c 0 _ rfl
      have Zf0 := ZB.f 0 (Nat.le_of_ble_eq_true rfl)
      have Z1 := ZB.c 1 _ rfl
      have Zf1 := ZB.f 1 (Nat.le_of_ble_eq_true rfl)
      have Z2 := ZB.c 2 _ rfl
      have Zf2 := ZB.f 2 (Nat.le_of_ble_eq_true rfl)
      have Z3 := ZB.c 3 _ rfl
      have Zf3 := ZB.f 3 (Nat.le_of_ble_eq_true rfl)
      have Zl := ZB.lt
      obtain ⟨ba0, ba1, baf, bag, bal⟩ := baB
      obtain ⟨bb0, bb1, bbf, bbg, bbl⟩ := bbB
      repeat (refine wpD_pure rfl rfl ?_; go_big_quiet_step (fail); refine wpQuiet_nil ?_)
      refine wpD_rd [w.heap.size] (by kernel_rfl) rfl rfl ?_; go_big_quiet_step (fail); refine wpQuiet_nil ?_
      try simp only [Act.put, List.setIfInBounds_toArray, List.set_cons_zero, List.set_cons_succ]
      refine wpD_st rfl rfl rfl (w' := W) (by simp [go_sem, Z0, Z1, Z2, Z3, Zf0, Zf1, Zf2, Zf3]; simp [setCell_id, Z0, Z1, Z2, Z3]) (ExtD.refl _ _) ?_
      try simp only [Act.put]
      refine wpD_st rfl rfl rfl (by simp [go_sem, ba0, ba1, baf, bag]; rfl) (((ExtD.refl _ _).setCell (by exact List.mem_singleton.2 rfl) _).setCell (by exact List.mem_singleton.2 rfl) _) ?_
      refine wpD_nil ?_
      try simp only [Act.put]
      go_wp2_with fail
      refine bodyPost_ret (v := .tuple #[.agg #[.int .i64 0, .int .i64 0, .int .i64 0, .slice none 0 0], .agg #[.int .i64 1, .int .i64 (-1)]]) (by simp [results, Tryz.results43, go_sem, Z0, Z1, Z2, Z3, ba0, ba1]) rfl ?_
      rw [F1.out, F2.out]
      exact ⟨none, 0, rfl, VIn.zero _, by go_grown⟩

end Go.Proofs.YtgngehfgcogceaaGreatDoor
