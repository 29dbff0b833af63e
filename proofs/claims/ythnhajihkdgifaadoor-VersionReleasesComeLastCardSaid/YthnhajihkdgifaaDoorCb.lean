/- The closed example of the laws of versions holds. -/
import Derived.Test.YthnhajihkdgifaaDoorCa
namespace Go.Proofs.YthnhajihkdgifaaDoor
open Go.RowKit
/-- A store over an integer leaves a version's identifiers. -/
theorem VIn.setInt {w : World} {v : Pl.Ver} {p : Option Addr} {c : Nat} (h : VIn w v p c) {a : Addr} {k : IntKind} {n : Int} (hc : w.cell? a = some (.int k n)) (u : Value) : VIn (w.setCell a u) v p c := by
  refine ⟨⟨h.sl.hl, h.sl.hcap, h.sl.hmax, ?_⟩, h.ss⟩
  rcases h.sl.mem with h0 | ⟨b, off, h1, h2, h3⟩
  · exact .inl h0
  · refine .inr ⟨b, off, h1, by simpa using h2, fun j x hx => ?_⟩
    rw [World.cell?_setCell_other _ _ _ _ ?_]
    · exact h3 j x hx
    · intro he
      have h4 := h3 j x hx
      first | rw [he, hc] at h4 | rw [← he, hc] at h4
      obtain ⟨y, -, rfl⟩ := List.mem_map.1 (List.mem_of_getElem? hx)
      cases h4
theorem VIn.setF {w : World} {v : Pl.Ver} {p : Option Addr} {c r : Nat} (h : VIn w v p c) {k l : IntKind} {x y : Int} (hb : Box2 w r (.int k x) (.int l y)) (u t : Value) : VIn ((w.setCell ⟨r, 0, none⟩ u).setCell ⟨r, 1, none⟩ t) v p c := by
  obtain ⟨h0, h1, -, -, -⟩ := hb
  refine VIn.setInt (VIn.setInt h h0 u) (k := l) (n := y) ?_ t
  rw [World.cell?_setCell_other _ _ _ _ (by intro he; cases he)]
  exact h1
set_option maxRecDepth 100000 in
set_option maxHeartbeats 4000000 in
theorem orders_any (w : World) (E : Env w) : Calls Tryd.prog 9 #[] w fun e w' => e = .returned (.bool true) ∧ Below w.heap.size w w' := by
  have HE := Lib.hid E
  clear E
  go_enter Tryd.func9, Tryd.ntmps9
  go_wp2_with (first | (go_at_call 25; refine (pre_at _ _ _ _ _).mono ?_; rintro e w' ⟨rfl, rfl⟩) | (go_at_call 24; refine (ver_at _ _ _ _).mono ?_; rintro e w' ⟨rfl, rfl⟩))
  refine (orC1 _ _ _ (by exact VIn.at1 (by go_size) (by simp [go_sem]) (by decide)) (by exact VIn.at1 (by go_size) (by simp [go_sem]) (by decide))).mono ?_
  rintro e w1 ⟨rfl, hb⟩
  have hk : Below (w).heap.size (w) w1 := bcall (by go_grown) hb (by first | go_size | (simp; done) | (simp only [World.size_alloc]; omega))
  have B1 : Below w.heap.size w w1 := hk
  clear hb hk
  have F1 := (Box2.newAt (w := w1) (r := w1.heap.size) (x := .int .i64 0) (y := .int .i64 0) (t := 27) (by simp))
  replace B1 : Below w.heap.size w (w1.alloc (.cells #[.int .i64 0, .int .i64 0] 27)) := by have z := B1.size; go_grown
  skip
  go_wp2_with (first | (go_at_call 25; refine (pre_at _ _ _ _ _).mono ?_; rintro e w' ⟨rfl, rfl⟩) | (go_at_call 24; refine (ver_at _ _ _ _).mono ?_; rintro e w' ⟨rfl, rfl⟩))
  refine (orC2 _ _ (by exact VIn.at1 (by go_size) (by simp [go_sem]) (by decide))).mono ?_
  rintro e w2 ⟨rfl, hb⟩
  have hk : Below ((w1.alloc (.cells #[.int .i64 0, .int .i64 0] 27))).heap.size ((w1.alloc (.cells #[.int .i64 0, .int .i64 0] 27))) w2 := bcall (by go_grown) hb (by first | go_size | (simp; done) | (simp only [World.size_alloc]; omega))
  have B2 : Below w.heap.size w w2 := bcall B1 hk B1.size
  clear B1
  replace F1 := F1.below hk F1.lt
  clear hb hk
  have F2 := (Box2.newAt (w := w2) (r := w2.heap.size) (x := .int .i64 0) (y := .int .i64 0) (t := 27) (by simp))
  replace F1 := (F1.alloc (.cells #[.int .i64 0, .int .i64 0] 27))
  replace B2 : Below w.heap.size w (w2.alloc (.cells #[.int .i64 0, .int .i64 0] 27)) := by have z := B2.size; go_grown
  skip
  go_wp2_with (first | (go_at_call 25; refine (pre_at _ _ _ _ _).mono ?_; rintro e w' ⟨rfl, rfl⟩) | (go_at_call 24; refine (ver_at _ _ _ _).mono ?_; rintro e w' ⟨rfl, rfl⟩))
  refine (orN _).mono ?_
  rintro e w3 ⟨a3, c3, rfl, v3, hb⟩
  have V3 := Lib.hid v3
  clear v3
  have hk : Below ((w2.alloc (.cells #[.int .i64 0, .int .i64 0] 27))).heap.size ((w2.alloc (.cells #[.int .i64 0, .int .i64 0] 27))) w3 := bcall (by go_grown) hb (by first | go_size | (simp; done) | (simp only [World.size_alloc]; omega))
  have B3 : Below w.heap.size w w3 := bcall B2 hk B2.size
  clear B2
  replace F1 := F1.below hk F1.lt
  replace F2 := F2.below hk F2.lt
  clear hb hk
  have X3 := ((Blk.new w3 [.int .i64 1, .int .i64 2, .int .i64 4, .slice a3 1 c3] 24 (g := w3.heap.size) (by simp)).alloc (.cells #[.int .i64 0, .int .i64 0] 27))
  have F3 := (Box2.newAt (w := (w3.alloc (.cells #[.int .i64 1, .int .i64 2, .int .i64 4, .slice a3 1 c3] 24))) (r := w3.heap.size + 1) (x := .int .i64 0) (y := .int .i64 0) (t := 27) (by simp))
  replace F1 := ((F1.alloc (.cells #[.int .i64 1, .int .i64 2, .int .i64 4, .slice a3 1 c3] 24)).alloc (.cells #[.int .i64 0, .int .i64 0] 27))
  replace F2 := ((F2.alloc (.cells #[.int .i64 1, .int .i64 2, .int .i64 4, .slice a3 1 c3] 24)).alloc (.cells #[.int .i64 0, .int .i64 0] 27))
  replace V3 := Lib.hid (V3.out.below (B := w3.heap.size) (w' := ((w3.alloc (.cells #[.int .i64 1, .int .i64 2, .int .i64 4, .slice a3 1 c3] 24)).alloc (.cells #[.int .i64 0, .int .i64 0] 27))) (by go_grown) (Nat.le_refl _))
  replace B3 : Below w.heap.size w ((w3.alloc (.cells #[.int .i64 1, .int .i64 2, .int .i64 4, .slice a3 1 c3] 24)).alloc (.cells #[.int .i64 0, .int .i64 0] 27)) := by have z := B3.size; go_grown
  skip
  go_wp2_with (first | (go_at_call 25; refine (pre_at _ _ _ _ _).mono ?_; rintro e w' ⟨rfl, rfl⟩) | (go_at_call 24; refine (ver_at _ _ _ _).mono ?_; rintro e w' ⟨rfl, rfl⟩))
  refine (orF _ _ (by exact VIn.at1 (by go_size) (by simp [go_sem]) (by decide)) (by exact HE.out.below (B := w.heap.size) (by have z := B3.size; go_grown <;> (simp only [World.size_alloc] at *; omega)) (Nat.le_refl _))).mono ?_
  rintro e w4 ⟨rfl, hb⟩
  have hk : Below (((w3.alloc (.cells #[.int .i64 1, .int .i64 2, .int .i64 4, .slice a3 1 c3] 24)).alloc (.cells #[.int .i64 0, .int .i64 0] 27))).heap.size (((w3.alloc (.cells #[.int .i64 1, .int .i64 2, .int .i64 4, .slice a3 1 c3] 24)).alloc (.cells #[.int .i64 0, .int .i64 0] 27))) w4 := bcall (by go_grown) hb (by first | go_size | (simp; done) | (simp only [World.size_alloc]; omega))
  have B4 : Below w.heap.size w w4 := bcall B3 hk B3.size
  clear B3
  replace F1 := F1.below hk F1.lt
  replace F2 := F2.below hk F2.lt
  replace V3 := Lib.hid (V3.out.below hk (Nat.le_refl _))
  replace X3 := X3.below hk X3.lt
  replace F3 := F3.below hk F3.lt
  clear hb hk
  have F4 := (Box2.newAt (w := w4) (r := w4.heap.size) (x := .int .i64 0) (y := .int .i64 0) (t := 27) (by simp))
  replace F1 := (F1.alloc (.cells #[.int .i64 0, .int .i64 0] 27))
  replace F2 := (F2.alloc (.cells #[.int .i64 0, .int .i64 0] 27))
  replace V3 := Lib.hid (V3.out.below (B := w4.heap.size) (w' := (w4.alloc (.cells #[.int .i64 0, .int .i64 0] 27))) (by go_grown) (Nat.le_refl _))
  replace X3 := (X3.alloc (.cells #[.int .i64 0, .int .i64 0] 27))
  replace F3 := (F3.alloc (.cells #[.int .i64 0, .int .i64 0] 27))
  replace B4 : Below w.heap.size w (w4.alloc (.cells #[.int .i64 0, .int .i64 0] 27)) := by have z := B4.size; go_grown
  skip
  go_wp2_with (first | (go_at_call 25; refine (pre_at _ _ _ _ _).mono ?_; rintro e w' ⟨rfl, rfl⟩) | (go_at_call 24; refine (ver_at _ _ _ _).mono ?_; rintro e w' ⟨rfl, rfl⟩))
  refine (orP1 _ (by exact HE.out.below (B := w.heap.size) (by have z := B4.size; go_grown <;> (simp only [World.size_alloc] at *; omega)) (Nat.le_refl _))).mono ?_
  rintro e w5 ⟨a5, c5, rfl, v5, hb⟩
  have V5 := Lib.hid v5
  clear v5
  have hk : Below ((w4.alloc (.cells #[.int .i64 0, .int .i64 0] 27))).heap.size ((w4.alloc (.cells #[.int .i64 0, .int .i64 0] 27))) w5 := bcall (by go_grown) hb (by first | go_size | (simp; done) | (simp only [World.size_alloc]; omega))
  have B5 : Below w.heap.size w w5 := bcall B4 hk B4.size
  clear B4
  replace F1 := F1.below hk F1.lt
  replace F2 := F2.below hk F2.lt
  replace V3 := Lib.hid (V3.out.below hk (Nat.le_refl _))
  replace X3 := X3.below hk X3.lt
  replace F3 := F3.below hk F3.lt
  replace F4 := F4.below hk F4.lt
  clear hb hk
  have X5 := ((Blk.new w5 [.int .i64 1, .int .i64 2, .int .i64 3, .slice a5 1 c5] 24 (g := w5.heap.size) (by simp)).alloc (.cells #[.int .i64 0, .int .i64 0] 27))
  have F5 := (Box2.newAt (w := (w5.alloc (.cells #[.int .i64 1, .int .i64 2, .int .i64 3, .slice a5 1 c5] 24))) (r := w5.heap.size + 1) (x := .int .i64 0) (y := .int .i64 0) (t := 27) (by simp))
  replace F1 := ((F1.alloc (.cells #[.int .i64 1, .int .i64 2, .int .i64 3, .slice a5 1 c5] 24)).alloc (.cells #[.int .i64 0, .int .i64 0] 27))
  replace F2 := ((F2.alloc (.cells #[.int .i64 1, .int .i64 2, .int .i64 3, .slice a5 1 c5] 24)).alloc (.cells #[.int .i64 0, .int .i64 0] 27))
  replace V3 := Lib.hid (V3.out.below (B := w5.heap.size) (w' := ((w5.alloc (.cells #[.int .i64 1, .int .i64 2, .int .i64 3, .slice a5 1 c5] 24)).alloc (.cells #[.int .i64 0, .int .i64 0] 27))) (by go_grown) (Nat.le_refl _))
  replace X3 := ((X3.alloc (.cells #[.int .i64 1, .int .i64 2, .int .i64 3, .slice a5 1 c5] 24)).alloc (.cells #[.int .i64 0, .int .i64 0] 27))
  replace F3 := ((F3.alloc (.cells #[.int .i64 1, .int .i64 2, .int .i64 3, .slice a5 1 c5] 24)).alloc (.cells #[.int .i64 0, .int .i64 0] 27))
  replace F4 := ((F4.alloc (.cells #[.int .i64 1, .int .i64 2, .int .i64 3, .slice a5 1 c5] 24)).alloc (.cells #[.int .i64 0, .int .i64 0] 27))
  replace V5 := Lib.hid (V5.out.below (B := w5.heap.size) (w' := ((w5.alloc (.cells #[.int .i64 1, .int .i64 2, .int .i64 3, .slice a5 1 c5] 24)).alloc (.cells #[.int .i64 0, .int .i64 0] 27))) (by go_grown) (Nat.le_refl _))
  replace B5 : Below w.heap.size w ((w5.alloc (.cells #[.int .i64 1, .int .i64 2, .int .i64 3, .slice a5 1 c5] 24)).alloc (.cells #[.int .i64 0, .int .i64 0] 27)) := by have z := B5.size; go_grown
  skip
  go_wp2_with (first | (go_at_call 25; refine (pre_at _ _ _ _ _).mono ?_; rintro e w' ⟨rfl, rfl⟩) | (go_at_call 24; refine (ver_at _ _ _ _).mono ?_; rintro e w' ⟨rfl, rfl⟩))
  refine (orP2 _ (by exact HE.out.below (B := w.heap.size) (by have z := B5.size; go_grown <;> (simp only [World.size_alloc] at *; omega)) (Nat.le_refl _))).mono ?_
  rintro e w6 ⟨a6, c6, rfl, -, hb⟩
  have hk : Below (((w5.alloc (.cells #[.int .i64 1, .int .i64 2, .int .i64 3, .slice a5 1 c5] 24)).alloc (.cells #[.int .i64 0, .int .i64 0] 27))).heap.size (((w5.alloc (.cells #[.int .i64 1, .int .i64 2, .int .i64 3, .slice a5 1 c5] 24)).alloc (.cells #[.int .i64 0, .int .i64 0] 27))) w6 := bcall (by go_grown) hb (by first | go_size | (simp; done) | (simp only [World.size_alloc]; omega))
  have B6 : Below w.heap.size w w6 := bcall B5 hk B5.size
  clear B5
  replace F1 := F1.below hk F1.lt
  replace F2 := F2.below hk F2.lt
  replace V3 := Lib.hid (V3.out.below hk (Nat.le_refl _))
  replace X3 := X3.below hk X3.lt
  replace F3 := F3.below hk F3.lt
  replace F4 := F4.below hk F4.lt
  replace V5 := Lib.hid (V5.out.below hk (Nat.le_refl _))
  replace X5 := X5.below hk X5.lt
  replace F5 := F5.below hk F5.lt
  clear hb hk
  have X6 := ((Blk.new w6 [.int .i64 0, .int .i64 0, .int .i64 0, .slice a6 0 c6] 24 (g := w6.heap.size) (by simp)).alloc (.cells #[.int .i64 1, .int .i64 (-1)] 27))
  have F6 := (Box2.newAt (w := (w6.alloc (.cells #[.int .i64 0, .int .i64 0, .int .i64 0, .slice a6 0 c6] 24))) (r := w6.heap.size + 1) (x := .int .i64 1) (y := .int .i64 (-1)) (t := 27) (by simp))
  replace F1 := ((F1.alloc (.cells #[.int .i64 0, .int .i64 0, .int .i64 0, .slice a6 0 c6] 24)).alloc (.cells #[.int .i64 1, .int .i64 (-1)] 27))
  replace F2 := ((F2.alloc (.cells #[.int .i64 0, .int .i64 0, .int .i64 0, .slice a6 0 c6] 24)).alloc (.cells #[.int .i64 1, .int .i64 (-1)] 27))
  replace V3 := Lib.hid (V3.out.below (B := w6.heap.size) (w' := ((w6.alloc (.cells #[.int .i64 0, .int .i64 0, .int .i64 0, .slice a6 0 c6] 24)).alloc (.cells #[.int .i64 1, .int .i64 (-1)] 27))) (by go_grown) (Nat.le_refl _))
  replace X3 := ((X3.alloc (.cells #[.int .i64 0, .int .i64 0, .int .i64 0, .slice a6 0 c6] 24)).alloc (.cells #[.int .i64 1, .int .i64 (-1)] 27))
  replace F3 := ((F3.alloc (.cells #[.int .i64 0, .int .i64 0, .int .i64 0, .slice a6 0 c6] 24)).alloc (.cells #[.int .i64 1, .int .i64 (-1)] 27))
  replace F4 := ((F4.alloc (.cells #[.int .i64 0, .int .i64 0, .int .i64 0, .slice a6 0 c6] 24)).alloc (.cells #[.int .i64 1, .int .i64 (-1)] 27))
  replace V5 := Lib.hid (V5.out.below (B := w6.heap.size) (w' := ((w6.alloc (.cells #[.int .i64 0, .int .i64 0, .int .i64 0, .slice a6 0 c6] 24)).alloc (.cells #[.int .i64 1, .int .i64 (-1)] 27))) (by go_grown) (Nat.le_refl _))
  replace X5 := ((X5.alloc (.cells #[.int .i64 0, .int .i64 0, .int .i64 0, .slice a6 0 c6] 24)).alloc (.cells #[.int .i64 1, .int .i64 (-1)] 27))
  replace F5 := ((F5.alloc (.cells #[.int .i64 0, .int .i64 0, .int .i64 0, .slice a6 0 c6] 24)).alloc (.cells #[.int .i64 1, .int .i64 (-1)] 27))
  replace B6 : Below w.heap.size w ((w6.alloc (.cells #[.int .i64 0, .int .i64 0, .int .i64 0, .slice a6 0 c6] 24)).alloc (.cells #[.int .i64 1, .int .i64 (-1)] 27)) := by have z := B6.size; go_grown
  skip
  go_wp2_with (first | (go_at_call 25; refine (pre_at _ _ _ _ _).mono ?_; rintro e w' ⟨rfl, rfl⟩) | (go_at_call 24; refine (ver_at _ _ _ _).mono ?_; rintro e w' ⟨rfl, rfl⟩))
  generalize ((w6.alloc (.cells #[.int .i64 0, .int .i64 0, .int .i64 0, .slice a6 0 c6] 24)).alloc (.cells #[.int .i64 1, .int .i64 (-1)] 27)) = W6 at *
  replace B6 := B6.drew
  replace F1 := F1.drew
  replace F2 := F2.drew
  replace F3 := F3.drew
  replace F4 := F4.drew
  replace F5 := F5.drew
  replace F6 := F6.drew
  replace X3 := X3.drew
  replace X5 := X5.drew
  replace V3 := Lib.hid (V3.out.below (B := W6.heap.size) (w' := W6.drew) (by go_grown) (Nat.le_refl _))
  replace V5 := Lib.hid (V5.out.below (B := W6.heap.size) (w' := W6.drew) (by go_grown) (Nat.le_refl _))
  refine wp_region_ord [0, 1, 2, 3, 4, 5, 6, 7, 8, 9, 10, 11, 12, 13, 14, 15, 16, 17, 18, 19, 20, 21, 22, 23, 24, 25, 26, 27, 28, 29, 30, 31, 32, 33, 34, 35, 36, 37, 38, 39, 40, 41, 42, 43, 44, 45, 46, 47, 48, 49, 50] (by kernel_rfl) (by kernel_rfl) ?_
  generalize W6.drew = W at *
  obtain ⟨a10, a11, -, -, a1l⟩ := F1
  obtain ⟨a20, a21, -, -, a2l⟩ := F2
  obtain ⟨a30, a31, -, -, a3l⟩ := F3
  obtain ⟨a40, a41, -, -, a4l⟩ := F4
  obtain ⟨a50, a51, -, -, a5l⟩ := F5
  have x30 := X3.c 0 _ rfl
  have x31 := X3.c 1 _ rfl
  have x32 := X3.c 2 _ rfl
  have x33 := X3.c 3 _ rfl
  repeat (refine wpI_rd rfl rfl ?_; go_big_quiet_step (fail); refine wpQuiet_nil ?_)
  try simp only
  refine wpI_call (f := 25) (args := #[.int .i64 1, .int .i64 2, .int .i64 4, .string ⟨#[48]⟩]) rfl rfl rfl (by simp [go_sem]) ?_
  refine (pre_at _ _ _ _ _).mono ?_
  rintro e w7 ⟨rfl, rfl⟩
  refine ⟨_, rfl, by go_grown, ?_⟩
  try simp only [Act.put, List.setIfInBounds_toArray, List.set_cons_zero, List.set_cons_succ]
  refine wpI_call (f := 17) rfl rfl rfl (by simp [go_sem]; rfl) ?_
  refine (orS1 _ _ _ _ (by exact V3.out.below (B := W.heap.size) (by go_grown) (Nat.le_refl _)) (by exact VIn.at1 (by go_size) (by simp [go_sem]) (by decide))).mono ?_
  rintro e w8 ⟨rfl, hb⟩
  refine ⟨_, rfl, hb, ?_⟩
  have hk : Below W.heap.size W w8 := bcall (by go_grown) hb (by first | go_size | (simp; done) | (simp only [World.size_alloc]; omega))
  have B8 : Below w.heap.size w w8 := bcall B6 hk B6.size
  have G6 := F6.below hk F6.lt
  have Y5 := X5.below hk X5.lt
  have U5 := Lib.hid (V5.out.below hk (Nat.le_refl _))
  clear hb hk B6 F6 X5 V5 X3 V3 x30 x31 x32 x33 a10 a11 a1l a20 a21 a2l a30 a31 a3l a40 a41 a4l a50 a51 a5l
  have x50 := Y5.c 0 _ rfl
  have x51 := Y5.c 1 _ rfl
  have x52 := Y5.c 2 _ rfl
  have x53 := Y5.c 3 _ rfl
  try simp only [Act.put, List.setIfInBounds_toArray, List.set_cons_zero, List.set_cons_succ]
  repeat (refine wpI_rd rfl rfl ?_; go_big_quiet_step (fail); refine wpQuiet_nil ?_)
  try simp only [Act.put, List.setIfInBounds_toArray, List.set_cons_zero, List.set_cons_succ]
  refine wpI_call (f := 25) (args := #[.int .i64 1, .int .i64 2, .int .i64 3, .string ⟨#[114, 99]⟩]) rfl rfl rfl (by simp [go_sem]) ?_
  refine (pre_at _ _ _ _ _).mono ?_
  rintro e w7 ⟨rfl, rfl⟩
  refine ⟨_, rfl, by go_grown, ?_⟩
  try simp only [Act.put, List.setIfInBounds_toArray, List.set_cons_zero, List.set_cons_succ]
  refine wpI_call (f := 17) rfl rfl rfl (by simp [go_sem]; rfl) ?_
  refine (orS2 _ _ _ _ (by exact U5.out.below (B := w8.heap.size) (by go_grown) (Nat.le_refl _)) (by exact VIn.at1 (by go_size) (by simp [go_sem]) (by decide))).mono ?_
  rintro e w9 ⟨rfl, hb⟩
  refine ⟨_, rfl, hb, ?_⟩
  have hk : Below w8.heap.size w8 w9 := bcall (by go_grown) hb (by first | go_size | (simp; done) | (simp only [World.size_alloc]; omega))
  have B9 : Below w.heap.size w w9 := bcall B8 hk B8.size
  have H6 := G6.below hk G6.lt
  clear hb hk B8 G6 Y5 U5 x50 x51 x52 x53
  obtain ⟨a60, a61, -, -, a6l⟩ := H6
  try simp only [Act.put, List.setIfInBounds_toArray, List.set_cons_zero, List.set_cons_succ]
  repeat (refine wpI_rd rfl rfl ?_; go_big_quiet_step (fail); refine wpQuiet_nil ?_)
  try simp only [Act.put, List.setIfInBounds_toArray, List.set_cons_zero, List.set_cons_succ]
  refine wpI_call (f := 12) (args := #[.int .i64 1, .int .i64 (-1)]) rfl rfl rfl (by simp [go_sem]) ?_
  refine (lfault_at _ _ _).mono ?_
  rintro e w7 ⟨rfl, rfl⟩
  refine ⟨_, rfl, by go_grown, ?_⟩
  try simp only [Act.put, List.setIfInBounds_toArray, List.set_cons_zero, List.set_cons_succ]
  repeat (refine wpI_rd rfl rfl ?_; go_big_quiet_step (fail); refine wpQuiet_nil ?_)
  refine wpI_nil ?_
  try simp only [Act.put, List.setIfInBounds_toArray, List.set_cons_zero, List.set_cons_succ]
  go_wp2_with fail
  go_ret
  exact ⟨rfl, by have h := B9.size; go_grown⟩
end Go.Proofs.YthnhajihkdgifaaDoor
