/- Contracts: intersections; unions, intersections and complements with their faults, by the program. -/
import Derived.Test.YtjfkmbehckdjlaaGreatDoorDj
namespace Go.Proofs.YtjfkmbehckdjlaaGreatDoor
open Go.RowKit

/-- A store into a small block that is not the row's. -/
theorem RIn.setBk {w : World} {r : List Pl.Ivl} {a : Option Addr} {c g : Nat} {cs : List Value} (h : RIn w r a c) (hk : Bk w g cs) (hl : cs.length < 9) {j : Nat} {u : Value} (hu : cs[j]? = some u) (hs : ∀ s, u ≠ .string s) (v : Value) : RIn (w.setCell ⟨g, j, none⟩ v) r a c := by
  obtain ⟨es, h1, h2⟩ := h.mem
  refine ⟨es, ⟨h1.hl, h1.hcap, h1.hmax, ?_⟩, h2.mono fun x cc ⟨a, b, c, d, e, g1, g2⟩ => ⟨a, b, c, d, e, g1.setNS (hk.c j hu) hs v, g2.setNS (hk.c j hu) hs v⟩⟩
  rcases h1.mem with h0 | ⟨b, off, rfl, hlt, hc⟩
  · exact .inl h0
  · refine .inr ⟨b, off, rfl, by simpa using hlt, fun i y hy => ?_⟩
    rw [World.cell?_setCell_other]
    · exact hc i y hy
    · intro e
      have e1 : b = g := by injection e with e1 _; first | exact e1 | exact e1.symm
      subst e1
      have hi := (List.getElem?_eq_some_iff.1 hy).1
      have hn : es.length = r.length * 9 := h1.hl
      -- the last cell of the interval would lie in the small block
      have hlast : es[i / 9 * 9 + 8]? = some (es[i / 9 * 9 + 8]'(by omega)) := List.getElem?_eq_getElem (by omega)
      have := hc _ _ hlast
      rw [hk.a] at this
      have := (List.getElem?_eq_some_iff.1 this).1
      omega
namespace Pl
theorem invAt_len : ∀ (r : List Ivl) (low : Ver), (invAt low r).length ≤ r.length + 1
  | [], _ => by simp [invAt]
  | x :: r, low => by
    rw [invAt, List.length_append]
    have := invAt_len r x.hi
    by_cases h1 : verCmp low x.lo < 0 <;> by_cases h2 : x.un = true <;> simp [h1, h2] <;> omega
theorem invR_len (r : List Ivl) : (invR r).length ≤ r.length + 1 := invAt_len r lowV
theorem addL_len (o : List Ivl) (x : Ivl) : (addL o x).length ≤ o.length + 1 := by
  rcases List.eq_nil_or_concat o with rfl | ⟨q, l, e⟩
  · simp [addL]
  · rw [List.concat_eq_append] at e
    subst e
    rw [addL_snoc]
    repeat' split
    all_goals simp
theorem fold_len : ∀ (s o : List Ivl), (s.foldl addL o).length ≤ o.length + s.length
  | [], o => by simp
  | x :: s, o => by
    have h1 := fold_len s (addL o x)
    have h2 := addL_len o x
    rw [List.foldl_cons, List.length_cons]
    omega
theorem insI_len (x : Ivl) : ∀ r : List Ivl, (insI x r).length = r.length + 1
  | [] => rfl
  | y :: r => by rw [insI]; split <;> simp [insI_len x r]
theorem withR_len (r : List Ivl) (x : Ivl) : (withR r x).length ≤ r.length + 1 := by
  have := fold_len (insI x r) []
  rw [insI_len] at this
  unfold withR
  simpa using this
theorem unionR_len : ∀ (b a : List Ivl), (unionR a b).length ≤ a.length + b.length
  | [], a => by simp [unionR]
  | x :: b, a => by
    have h1 := unionR_len b (withR a x)
    have h2 := withR_len a x
    rw [show unionR a (x :: b) = unionR (withR a x) b from rfl, List.length_cons]
    omega
/-- The result of an operation, and its fault. -/
def opF (P : Int × Int) (r : List Ivl) : Int × Int := if P.1 ≠ 0 then P else limF r
def opV (P : Int × Int) (r : List Ivl) : List Ivl := if P.1 ≠ 0 then [] else limR r
theorem op_bad {P : Int × Int} {r : List Ivl} (h : P.1 ≠ 0) : opF P r = P ∧ opV P r = [] := by unfold opF opV; rw [if_pos h, if_pos h]; exact ⟨rfl, rfl⟩
theorem op_ok {r : List Ivl} : opF (0, 0) r = limF r ∧ opV (0, 0) r = limR r := by unfold opF opV; rw [if_neg (by simp), if_neg (by simp)]; exact ⟨rfl, rfl⟩
end Pl
set_option maxRecDepth 100000 in
set_option maxHeartbeats 4000000 in
theorem meet_any (r t : List Pl.Ivl) (a b : Option Addr) (c d : Nat) (w : World) (h1 : RIn w r a c) (h2 : RIn w t b d) (can1 : Pl.Can r) (can2 : Pl.Can t) (hn1 : r.length ≤ 400000) (hn2 : t.length ≤ 400000) :
    Calls Tryz.prog 54 #[.agg #[.slice a r.length c], .agg #[.slice b t.length d]] w (RRng (Pl.commonR r t) w) := by
  have H := Lib.hid h1
  have K := Lib.hid h2
  have C1 := Lib.hid can1
  have C2 := Lib.hid can2
  have I1 := Lib.hid (Pl.invR_can can1).1
  have I2 := Lib.hid (Pl.invR_can can2).1
  have U := Lib.hid (Pl.unionR_can (Pl.invR_can can1).1 (Pl.invR_can can2).1.ok).1
  have E := Lib.hid (Pl.meet_is can1 can2)
  have n1 := Pl.invR_len r
  have n2 := Pl.invR_len t
  have n3 := Pl.unionR_len (Pl.invR t) (Pl.invR r)
  clear h1 h2 can1 can2
  go_enter Tryz.func54, Tryz.ntmps54
  have B0 : Below w.heap.size w w := Below.refl _ _
  go_wp2_with fail
  refine wp_region_ord [0, 2, 1, 3, 4, 5, 6] (by kernel_rfl) (by kernel_rfl) ?_
  have B1 : Below w.heap.size w (((w.alloc (.cells #[.slice a r.length c] 24)).alloc (.cells #[.slice b t.length d] 24)).alloc (.cells #[.slice none 0 0] 24)).drew := by go_grown
  have q1 : w.heap.size + 3 ≤ (((w.alloc (.cells #[.slice a r.length c] 24)).alloc (.cells #[.slice b t.length d] 24)).alloc (.cells #[.slice none 0 0] 24)).drew.heap.size := by simp only [World.size_alloc, World.size_drew]; omega
  replace H := Lib.hid ((((H.out.below (Below.refl _ _ |>.alloc (Nat.le_refl _) (.cells #[.slice a r.length c] 24)) (Nat.le_refl _)).below (Below.refl _ _ |>.alloc (Nat.le_refl _) (.cells #[.slice b t.length d] 24)) (Nat.le_refl _)).below (Below.refl _ _ |>.alloc (Nat.le_refl _) (.cells #[.slice none 0 0] 24)) (Nat.le_refl _)).below (Below.refl _ _).drew (Nat.le_refl _))
  replace K := Lib.hid ((((K.out.below (Below.refl _ _ |>.alloc (Nat.le_refl _) (.cells #[.slice a r.length c] 24)) (Nat.le_refl _)).below (Below.refl _ _ |>.alloc (Nat.le_refl _) (.cells #[.slice b t.length d] 24)) (Nat.le_refl _)).below (Below.refl _ _ |>.alloc (Nat.le_refl _) (.cells #[.slice none 0 0] 24)) (Nat.le_refl _)).below (Below.refl _ _).drew (Nat.le_refl _))
  have X := (((Bk.new (r := w.heap.size) (cs := [.slice a r.length c]) w 24 (by simp)).alloc (.cells #[.slice b t.length d] 24)).alloc (.cells #[.slice none 0 0] 24)).drew
  have Y := ((Bk.new (r := w.heap.size + 1) (cs := [.slice b t.length d]) (w.alloc (.cells #[.slice a r.length c] 24)) 24 (by simp)).alloc (.cells #[.slice none 0 0] 24)).drew
  have R := (Bk.new (r := w.heap.size + 1 + 1) (cs := [.slice none 0 0]) ((w.alloc (.cells #[.slice a r.length c] 24)).alloc (.cells #[.slice b t.length d] 24)) 24 (by simp)).drew
  generalize (((w.alloc (.cells #[.slice a r.length c] 24)).alloc (.cells #[.slice b t.length d] 24)).alloc (.cells #[.slice none 0 0] 24)).drew = w1 at *
  have s1 : w.heap.size ≤ w1.heap.size := B1.size
  obtain ⟨X_c, X_f, X_l⟩ := id X
  obtain ⟨Y_c, Y_f, Y_l⟩ := id Y
  obtain ⟨R_c, R_f, R_l⟩ := id R
  repeat (refine wpI_rd rfl rfl ?_; go_big_quiet_step (fail); refine wpQuiet_nil ?_)
  try simp only [Act.put, List.setIfInBounds_toArray, List.set_cons_zero, List.set_cons_succ]
  refine wpI_call (f := 55) (args := #[.agg #[.slice a r.length c]]) rfl rfl rfl (by simp [go_sem]) ?_
  refine (invert_any r a c _ H.out C1.out (by omega)).mono ?_
  rintro e w2 ⟨o1, k1, rfl, A1, hb⟩
  replace A1 := Lib.hid A1
  refine ⟨_, rfl, hb, ?_⟩
  skip
  have B2 : Below w.heap.size w w2 := bcall (by go_grown) hb (by go_size)
  have q2 : w1.heap.size + 0 ≤ w2.heap.size := by have z := hb.size; (try simp only [World.size_alloc, World.size_setCell, World.size_drew] at z); omega
  replace H := Lib.hid (H.out.below hb (Nat.le_refl _))
  replace K := Lib.hid (K.out.below hb (Nat.le_refl _))
  replace X := (X).below hb (by go_size)
  replace Y := (Y).below hb (by go_size)
  replace R := (R).below hb (by go_size)
  clear hb
  have s2 : w.heap.size ≤ w2.heap.size := B2.size
  clear X_c X_f X_l Y_c Y_f Y_l R_c R_f R_l
  obtain ⟨X_c, X_f, X_l⟩ := id X
  obtain ⟨Y_c, Y_f, Y_l⟩ := id Y
  obtain ⟨R_c, R_f, R_l⟩ := id R
  try simp only [Act.put, List.setIfInBounds_toArray, List.set_cons_zero, List.set_cons_succ]
  repeat (refine wpI_rd rfl rfl ?_; go_big_quiet_step (fail); refine wpQuiet_nil ?_)
  try simp only [Act.put, List.setIfInBounds_toArray, List.set_cons_zero, List.set_cons_succ]
  refine wpI_call (f := 55) (args := #[.agg #[.slice b t.length d]]) rfl rfl rfl (by simp [go_sem]) ?_
  refine (invert_any t b d _ K.out C2.out (by omega)).mono ?_
  rintro e w3 ⟨o2, k2, rfl, A2, hb⟩
  replace A2 := Lib.hid A2
  refine ⟨_, rfl, hb, ?_⟩
  skip
  have B3 : Below w.heap.size w w3 := bcall (by go_grown) hb (by go_size)
  have q3 : w2.heap.size + 0 ≤ w3.heap.size := by have z := hb.size; (try simp only [World.size_alloc, World.size_setCell, World.size_drew] at z); omega
  replace H := Lib.hid (H.out.below hb (Nat.le_refl _))
  replace K := Lib.hid (K.out.below hb (Nat.le_refl _))
  replace A1 := Lib.hid (A1.out.below hb (Nat.le_refl _))
  replace X := (X).below hb (by go_size)
  replace Y := (Y).below hb (by go_size)
  replace R := (R).below hb (by go_size)
  clear hb
  have s3 : w.heap.size ≤ w3.heap.size := B3.size
  clear X_c X_f X_l Y_c Y_f Y_l R_c R_f R_l
  obtain ⟨X_c, X_f, X_l⟩ := id X
  obtain ⟨Y_c, Y_f, Y_l⟩ := id Y
  obtain ⟨R_c, R_f, R_l⟩ := id R
  try simp only [Act.put, List.setIfInBounds_toArray, List.set_cons_zero, List.set_cons_succ]
  repeat (refine wpI_rd rfl rfl ?_; go_big_quiet_step (fail); refine wpQuiet_nil ?_)
  try simp only [Act.put, List.setIfInBounds_toArray, List.set_cons_zero, List.set_cons_succ]
  refine wpI_call (f := 53) (args := #[.agg #[.slice o1 (Pl.invR r).length k1], .agg #[.slice o2 (Pl.invR t).length k2]]) rfl rfl rfl (by simp [go_sem]) ?_
  refine (join_any (Pl.invR r) (Pl.invR t) o1 o2 k1 k2 _ A1.out A2.out I1.out I2.out (by omega) (by omega)).mono ?_
  rintro e w4 ⟨o3, k3, rfl, A3, hb⟩
  replace A3 := Lib.hid A3
  refine ⟨_, rfl, hb, ?_⟩
  skip
  have B4 : Below w.heap.size w w4 := bcall (by go_grown) hb (by go_size)
  have q4 : w3.heap.size + 0 ≤ w4.heap.size := by have z := hb.size; (try simp only [World.size_alloc, World.size_setCell, World.size_drew] at z); omega
  replace H := Lib.hid (H.out.below hb (Nat.le_refl _))
  replace K := Lib.hid (K.out.below hb (Nat.le_refl _))
  replace A1 := Lib.hid (A1.out.below hb (Nat.le_refl _))
  replace A2 := Lib.hid (A2.out.below hb (Nat.le_refl _))
  replace X := (X).below hb (by go_size)
  replace Y := (Y).below hb (by go_size)
  replace R := (R).below hb (by go_size)
  clear hb
  have s4 : w.heap.size ≤ w4.heap.size := B4.size
  clear X_c X_f X_l Y_c Y_f Y_l R_c R_f R_l
  obtain ⟨X_c, X_f, X_l⟩ := id X
  obtain ⟨Y_c, Y_f, Y_l⟩ := id Y
  obtain ⟨R_c, R_f, R_l⟩ := id R
  try simp only [Act.put, List.setIfInBounds_toArray, List.set_cons_zero, List.set_cons_succ]
  repeat (refine wpI_rd rfl rfl ?_; go_big_quiet_step (fail); refine wpQuiet_nil ?_)
  try simp only [Act.put, List.setIfInBounds_toArray, List.set_cons_zero, List.set_cons_succ]
  refine wpI_call (f := 55) (args := #[.agg #[.slice o3 (Pl.unionR (Pl.invR r) (Pl.invR t)).length k3]]) rfl rfl rfl (by simp [go_sem]) ?_
  refine (invert_any _ o3 k3 _ A3.out U.out (by omega)).mono ?_
  rintro e w5 ⟨o4, k4, rfl, A4, hb⟩
  rw [E.out] at A4 ⊢
  replace A4 := Lib.hid A4
  refine ⟨_, rfl, hb, ?_⟩
  skip
  have B5 : Below w.heap.size w w5 := bcall (by go_grown) hb (by go_size)
  have q5 : w4.heap.size + 0 ≤ w5.heap.size := by have z := hb.size; (try simp only [World.size_alloc, World.size_setCell, World.size_drew] at z); omega
  replace A3 := Lib.hid (A3.out.below hb (Nat.le_refl _))
  replace X := (X).below hb (by go_size)
  replace Y := (Y).below hb (by go_size)
  replace R := (R).below hb (by go_size)
  clear hb
  have s5 : w.heap.size ≤ w5.heap.size := B5.size
  clear X_c X_f X_l Y_c Y_f Y_l R_c R_f R_l
  obtain ⟨X_c, X_f, X_l⟩ := id X
  obtain ⟨Y_c, Y_f, Y_l⟩ := id Y
  obtain ⟨R_c, R_f, R_l⟩ := id R
  try simp only [Act.put, List.setIfInBounds_toArray, List.set_cons_zero, List.set_cons_succ]
  refine wpI_st rfl rfl rfl (w' := w5.setCell ⟨w.heap.size + 1 + 1, 0, none⟩ (.slice o4 (Pl.commonR r t).length k4)) (by simp [go_sem, R_c, R_f]) ?_
  try simp only [Act.put]
  refine wpI_nil ?_
  try simp only [Act.put, List.setIfInBounds_toArray, List.set_cons_zero, List.set_cons_succ]
  go_wp2_with fail
  have RN := R.set (k := 0) (by simp) (.slice o4 (Pl.commonR r t).length k4)
  obtain ⟨RN_c, RN_f, RN_l⟩ := RN
  refine bodyPost_ret (v := .agg #[.slice o4 (Pl.commonR r t).length k4]) (by simp [results, Tryz.results54, go_sem, RN_c]) rfl ⟨o4, k4, rfl, A4.out.setBk R (by simp) (j := 0) rfl (fun _ h => by cases h) _, by go_grown⟩
set_option maxHeartbeats 4000000 in
theorem union_bad (r t : List Pl.Ivl) (a b : Option Addr) (c d : Nat) (w : World) (h1 : RIn w r a c) (h2 : RIn w t b d) (f1 f2 : Int) (hf : f1 ≠ 0) (e1 : Pl.pairF r t = (f1, f2)) :
    Calls Tryz.prog 20 #[.agg #[.slice a r.length c], .agg #[.slice b t.length d]] w (RRngF (Pl.opV (Pl.pairF r t) (Pl.unionR r t)) (Pl.opF (Pl.pairF r t) (Pl.unionR r t)) w) := by
  have E := Pl.op_bad (P := Pl.pairF r t) (r := Pl.unionR r t) (by rw [e1]; exact hf)
  rw [E.1, E.2, e1]
  have CB := Lib.hid (fun (W : World) (g1 : RIn W r a c) (g2 : RIn W t b d) => both_any r t a b c d W g1 g2)
  rw [e1] at CB
  simp only [fltV] at CB
  have H := Lib.hid h1
  have K := Lib.hid h2
  have u1 := bneT hf
  have u2 := beqF hf
  clear h1 h2 E e1 hf
  go_enter Tryz.func20, Tryz.ntmps20
  have B0 : Below w.heap.size w w := Below.refl _ _
  go_wp2_with fail
  refine (CB.out _ (H.out.below (by go_grown) (Nat.le_refl _)) (K.out.below (by go_grown) (Nat.le_refl _))).mono ?_
  rintro e w1 ⟨rfl, hb⟩
  have B1 : Below w.heap.size w w1 := bcall (by go_grown) hb (by go_size)
  have q1 : w.heap.size + 4 ≤ w1.heap.size := by have z := hb.size; (try simp only [World.size_alloc] at z); omega
  replace H := Lib.hid (((((H.out.below (Below.refl _ _ |>.alloc (Nat.le_refl _) _) (Nat.le_refl _)).below (Below.refl _ _ |>.alloc (Nat.le_refl _) _) (Nat.le_refl _)).below (Below.refl _ _ |>.alloc (Nat.le_refl _) _) (Nat.le_refl _)).below (Below.refl _ _ |>.alloc (Nat.le_refl _) _) (Nat.le_refl _)).below hb (Nat.le_refl _))
  replace K := Lib.hid (((((K.out.below (Below.refl _ _ |>.alloc (Nat.le_refl _) _) (Nat.le_refl _)).below (Below.refl _ _ |>.alloc (Nat.le_refl _) _) (Nat.le_refl _)).below (Below.refl _ _ |>.alloc (Nat.le_refl _) _) (Nat.le_refl _)).below (Below.refl _ _ |>.alloc (Nat.le_refl _) _) (Nat.le_refl _)).below hb (Nat.le_refl _))
  have X := (((((Bk.new (r := w.heap.size) (cs := [.slice a r.length c]) _ 24 (by simp)).alloc _).alloc _).alloc _)).below hb (by go_size)
  have Y := ((((Bk.new (r := w.heap.size + 1) (cs := [.slice b t.length d]) _ 24 (by simp)).alloc _).alloc _)).below hb (by go_size)
  have R := (((Bk.new (r := w.heap.size + 1 + 1) (cs := [.slice none 0 0]) _ 24 (by simp)).alloc _)).below hb (by go_size)
  have F := ((Bk.new (r := w.heap.size + 1 + 1 + 1) (cs := [.int .i64 0, .int .i64 0]) _ 29 (by simp))).below hb (by go_size)
  clear hb
  have s1 : w.heap.size ≤ w1.heap.size := B1.size
  obtain ⟨X_c, X_f, X_l⟩ := id X
  obtain ⟨Y_c, Y_f, Y_l⟩ := id Y
  obtain ⟨R_c, R_f, R_l⟩ := id R
  obtain ⟨F_c, F_f, F_l⟩ := id F
  go_wp2_with fail
  refine wp_region_ordD [(2, w.heap.size + 1 + 1), (3, w.heap.size + 1 + 1 + 1)] [0, 1, 2, 3] (by kernel_rfl) (by kernel_rfl) ?_
  have B2 : Below w.heap.size w (w1.alloc (.cells #[.int .i64 f1, .int .i64 f2] 29)).drew := by go_grown
  have q2 : w1.heap.size + 1 ≤ (w1.alloc (.cells #[.int .i64 f1, .int .i64 f2] 29)).drew.heap.size := by simp only [World.size_alloc, World.size_drew]; omega
  replace H := Lib.hid ((H.out.below (Below.refl _ _ |>.alloc (Nat.le_refl _) (.cells #[.int .i64 f1, .int .i64 f2] 29)) (Nat.le_refl _)).below (Below.refl _ _).drew (Nat.le_refl _))
  replace K := Lib.hid ((K.out.below (Below.refl _ _ |>.alloc (Nat.le_refl _) (.cells #[.int .i64 f1, .int .i64 f2] 29)) (Nat.le_refl _)).below (Below.refl _ _).drew (Nat.le_refl _))
  replace X := (X.alloc (.cells #[.int .i64 f1, .int .i64 f2] 29)).drew
  replace Y := (Y.alloc (.cells #[.int .i64 f1, .int .i64 f2] 29)).drew
  replace R := (R.alloc (.cells #[.int .i64 f1, .int .i64 f2] 29)).drew
  replace F := (F.alloc (.cells #[.int .i64 f1, .int .i64 f2] 29)).drew
  have T := (Bk.new (r := w1.heap.size) (cs := [.int .i64 f1, .int .i64 f2]) w1 29 (by simp)).drew
  clear X_c X_f X_l Y_c Y_f Y_l R_c R_f R_l F_c F_f F_l
  generalize (w1.alloc (.cells #[.int .i64 f1, .int .i64 f2] 29)).drew = w2 at *
  have s2 : w.heap.size ≤ w2.heap.size := B2.size
  obtain ⟨X_c, X_f, X_l⟩ := id X
  obtain ⟨Y_c, Y_f, Y_l⟩ := id Y
  obtain ⟨R_c, R_f, R_l⟩ := id R
  obtain ⟨F_c, F_f, F_l⟩ := id F
  obtain ⟨T_c, T_f, T_l⟩ := id T
  have nz : w1.heap.size ≠ w.heap.size + 1 + 1 := by omega
  repeat (refine wpD_pure rfl rfl ?_; go_big_quiet_step (fail); refine wpQuiet_nil ?_)
  refine wpD_rd [w.heap.size + 1 + 1] (by kernel_rfl) rfl rfl ?_; go_big_quiet_step (fail); refine wpQuiet_nil ?_
  try simp only [Act.put, List.setIfInBounds_toArray, List.set_cons_zero, List.set_cons_succ]
  refine wpD_st rfl rfl rfl (w' := w2.setCell ⟨w.heap.size + 1 + 1, 0, none⟩ (.slice none 0 0)) (by simp [go_sem, R_c, R_f]) ((ExtD.refl _ _).setCell (by exact List.mem_singleton.2 rfl) _) ?_
  try simp only [Act.put]
  have F2 := F.far (a := ⟨w.heap.size + 1 + 1, 0, none⟩) (by dsimp only; omega) (.slice none 0 0)
  obtain ⟨F2_c, F2_f, -⟩ := id F2
  refine wpD_st rfl rfl rfl (w' := ((w2.setCell ⟨w.heap.size + 1 + 1, 0, none⟩ (.slice none 0 0)).setCell ⟨w.heap.size + 1 + 1 + 1, 0, none⟩ (.int .i64 f1)).setCell ⟨w.heap.size + 1 + 1 + 1, 1, none⟩ (.int .i64 f2)) (by simp [go_sem, F2_c, F2_f]) (((ExtD.refl _ _).setCell (by exact List.mem_singleton.2 rfl) _).setCell (by exact List.mem_singleton.2 rfl) _) ?_
  refine wpD_nil ?_
  try simp only [Act.put]
  go_wp2_with fail
  have FN := (F2.set (k := 0) (by simp) (.int .i64 f1)).set (k := 1) (by simp) (.int .i64 f2)
  have RN := ((R.set (k := 0) (by simp) (.slice none 0 0)).far (a := ⟨w.heap.size + 1 + 1 + 1, 0, none⟩) (by dsimp only; omega) (.int .i64 f1)).far (a := ⟨w.heap.size + 1 + 1 + 1, 1, none⟩) (by dsimp only; omega) (.int .i64 f2)
  obtain ⟨FN_c, FN_f, FN_l⟩ := FN
  obtain ⟨RN_c, RN_f, RN_l⟩ := RN
  refine bodyPost_ret (v := .tuple #[.agg #[.slice none 0 0], .agg #[.int .i64 f1, .int .i64 f2]]) (by simp [results, Tryz.results20, go_sem, RN_c, FN_c]) rfl ⟨none, 0, rfl, RIn.nil _, by go_grown⟩
set_option maxHeartbeats 4000000 in
theorem union_ok (r t : List Pl.Ivl) (a b : Option Addr) (c d : Nat) (w : World) (h1 : RIn w r a c) (h2 : RIn w t b d) (can1 : Pl.Can r) (can2 : Pl.Can t) (hn1 : r.length ≤ 12) (hn2 : t.length ≤ 12) (e1 : Pl.pairF r t = (0, 0)) :
    Calls Tryz.prog 20 #[.agg #[.slice a r.length c], .agg #[.slice b t.length d]] w (RRngF (Pl.opV (Pl.pairF r t) (Pl.unionR r t)) (Pl.opF (Pl.pairF r t) (Pl.unionR r t)) w) := by
  have E := Pl.op_ok (r := Pl.unionR r t)
  rw [e1, E.1, E.2]
  have CB := Lib.hid (fun (W : World) (g1 : RIn W r a c) (g2 : RIn W t b d) => both_any r t a b c d W g1 g2)
  rw [e1] at CB
  simp only [fltV] at CB
  have H := Lib.hid h1
  have K := Lib.hid h2
  have CJ := Lib.hid (fun (W : World) (g1 : RIn W r a c) (g2 : RIn W t b d) => join_any r t a b c d W g1 g2 can1 can2 (by omega) (by omega))
  obtain ⟨V, hV⟩ : ∃ V, Pl.unionR r t = V := ⟨_, rfl⟩
  rw [hV] at CJ ⊢
  have CL := Lib.hid (fun (W : World) (o : Option Addr) (k : Nat) (g1 : RIn W V o k) => limited_any V o k W g1)
  obtain ⟨L, hL⟩ : ∃ L, Pl.limR V = L := ⟨_, rfl⟩
  obtain ⟨Q, hQ⟩ : ∃ Q, Pl.limF V = Q := ⟨_, rfl⟩
  rw [hL, hQ] at CL ⊢
  obtain ⟨y1, y2⟩ := Q
  delta RRngF at CL
  simp only [fltV] at CL
  clear hL hQ
  clear h1 h2 E e1 can1 can2 hV
  go_enter Tryz.func20, Tryz.ntmps20
  have B0 : Below w.heap.size w w := Below.refl _ _
  go_wp2_with fail
  refine (CB.out _ (H.out.below (by go_grown) (Nat.le_refl _)) (K.out.below (by go_grown) (Nat.le_refl _))).mono ?_
  rintro e w1 ⟨rfl, hb⟩
  have B1 : Below w.heap.size w w1 := bcall (by go_grown) hb (by go_size)
  have q1 : w.heap.size + 4 ≤ w1.heap.size := by have z := hb.size; (try simp only [World.size_alloc] at z); omega
  replace H := Lib.hid (((((H.out.below (Below.refl _ _ |>.alloc (Nat.le_refl _) _) (Nat.le_refl _)).below (Below.refl _ _ |>.alloc (Nat.le_refl _) _) (Nat.le_refl _)).below (Below.refl _ _ |>.alloc (Nat.le_refl _) _) (Nat.le_refl _)).below (Below.refl _ _ |>.alloc (Nat.le_refl _) _) (Nat.le_refl _)).below hb (Nat.le_refl _))
  replace K := Lib.hid (((((K.out.below (Below.refl _ _ |>.alloc (Nat.le_refl _) _) (Nat.le_refl _)).below (Below.refl _ _ |>.alloc (Nat.le_refl _) _) (Nat.le_refl _)).below (Below.refl _ _ |>.alloc (Nat.le_refl _) _) (Nat.le_refl _)).below (Below.refl _ _ |>.alloc (Nat.le_refl _) _) (Nat.le_refl _)).below hb (Nat.le_refl _))
  have X := (((((Bk.new (r := w.heap.size) (cs := [.slice a r.length c]) _ 24 (by simp)).alloc _).alloc _).alloc _)).below hb (by go_size)
  have Y := ((((Bk.new (r := w.heap.size + 1) (cs := [.slice b t.length d]) _ 24 (by simp)).alloc _).alloc _)).below hb (by go_size)
  have R := (((Bk.new (r := w.heap.size + 1 + 1) (cs := [.slice none 0 0]) _ 24 (by simp)).alloc _)).below hb (by go_size)
  have F := ((Bk.new (r := w.heap.size + 1 + 1 + 1) (cs := [.int .i64 0, .int .i64 0]) _ 29 (by simp))).below hb (by go_size)
  clear hb
  have s1 : w.heap.size ≤ w1.heap.size := B1.size
  obtain ⟨X_c, X_f, X_l⟩ := id X
  obtain ⟨Y_c, Y_f, Y_l⟩ := id Y
  obtain ⟨R_c, R_f, R_l⟩ := id R
  obtain ⟨F_c, F_f, F_l⟩ := id F
  go_wp2_with fail
  refine (CJ.out _ (H.out.below (by go_grown) (Nat.le_refl _)) (K.out.below (by go_grown) (Nat.le_refl _))).mono ?_
  rintro e w2 ⟨o3, k3, rfl, A3, hb⟩
  replace A3 := Lib.hid A3
  have B2 : Below w.heap.size w w2 := bcall (by go_grown) hb (by go_size)
  have q2 : w1.heap.size + 1 ≤ w2.heap.size := by have z := hb.size; (try simp only [World.size_alloc] at z); omega
  replace H := Lib.hid ((H.out.below (Below.refl _ _ |>.alloc (Nat.le_refl _) _) (Nat.le_refl _)).below hb (Nat.le_refl _))
  replace K := Lib.hid ((K.out.below (Below.refl _ _ |>.alloc (Nat.le_refl _) _) (Nat.le_refl _)).below hb (Nat.le_refl _))
  replace X := ((X.alloc _)).below hb (by go_size)
  replace Y := ((Y.alloc _)).below hb (by go_size)
  replace R := ((R.alloc _)).below hb (by go_size)
  replace F := ((F.alloc _)).below hb (by go_size)
  clear hb
  have s2 : w.heap.size ≤ w2.heap.size := B2.size
  clear X_c X_f X_l Y_c Y_f Y_l R_c R_f R_l F_c F_f F_l
  obtain ⟨X_c, X_f, X_l⟩ := id X
  obtain ⟨Y_c, Y_f, Y_l⟩ := id Y
  obtain ⟨R_c, R_f, R_l⟩ := id R
  obtain ⟨F_c, F_f, F_l⟩ := id F
  go_wp2_with fail
  refine (CL.out _ o3 k3 A3.out).mono ?_
  rintro e w3 ⟨o4, k4, rfl, A4, hb⟩
  replace A4 := Lib.hid A4
  have B3 : Below w.heap.size w w3 := bcall (by go_grown) hb (by go_size)
  have q3 : w2.heap.size + 0 ≤ w3.heap.size := by have z := hb.size; (try simp only [World.size_alloc, World.size_setCell, World.size_drew] at z); omega
  replace A3 := Lib.hid (A3.out.below hb (Nat.le_refl _))
  replace X := (X).below hb (by go_size)
  replace Y := (Y).below hb (by go_size)
  replace R := (R).below hb (by go_size)
  replace F := (F).below hb (by go_size)
  clear hb
  have s3 : w.heap.size ≤ w3.heap.size := B3.size
  clear X_c X_f X_l Y_c Y_f Y_l R_c R_f R_l F_c F_f F_l
  obtain ⟨X_c, X_f, X_l⟩ := id X
  obtain ⟨Y_c, Y_f, Y_l⟩ := id Y
  obtain ⟨R_c, R_f, R_l⟩ := id R
  obtain ⟨F_c, F_f, F_l⟩ := id F
  go_wp2_with fail
  have RN := ((R.set (k := 0) (by simp) (.slice o4 L.length k4)).far (a := ⟨w.heap.size + 1 + 1 + 1, 0, none⟩) (by dsimp only; omega) (.int .i64 y1)).far (a := ⟨w.heap.size + 1 + 1 + 1, 1, none⟩) (by dsimp only; omega) (.int .i64 y2)
  have F1 := F.far (a := ⟨w.heap.size + 1 + 1, 0, none⟩) (by dsimp only; omega) (.slice o4 L.length k4)
  have FN := (F1.set (k := 0) (by simp) (.int .i64 y1)).set (k := 1) (by simp) (.int .i64 y2)
  obtain ⟨RN_c, RN_f, RN_l⟩ := RN
  obtain ⟨FN_c, FN_f, FN_l⟩ := FN
  refine bodyPost_ret (v := .tuple #[.agg #[.slice o4 L.length k4], .agg #[.int .i64 y1, .int .i64 y2]]) (by simp [results, Tryz.results20, go_sem, RN_c, FN_c]) rfl ⟨o4, k4, rfl, ((A4.out.setBk R (by simp) (j := 0) rfl (fun _ h => by cases h) _).setBk F1 (by simp) (j := 0) rfl (fun _ h => by cases h) _).setBk (F1.set (k := 0) (by simp) (.int .i64 y1)) (by simp) (j := 1) rfl (fun _ h => by cases h) _, by go_grown⟩
theorem union_any (r t : List Pl.Ivl) (a b : Option Addr) (c d : Nat) (w : World) (h1 : RIn w r a c) (h2 : RIn w t b d) :
    Calls Tryz.prog 20 #[.agg #[.slice a r.length c], .agg #[.slice b t.length d]] w (RRngF (Pl.opV (Pl.pairF r t) (Pl.unionR r t)) (Pl.opF (Pl.pairF r t) (Pl.unionR r t)) w) := by
  by_cases f1 : (Pl.rngF r).1 = 0
  · by_cases f2 : (Pl.rngF t).1 = 0
    · exact union_ok r t a b c d w h1 h2 (Pl.rng_ok f1).2 (Pl.rng_ok f2).2 (Pl.rng_ok f1).1 (Pl.rng_ok f2).1 (Pl.pairF_ok f1 f2)
    · exact union_bad r t a b c d w h1 h2 _ _ f2 (Pl.pairF_b f1 f2)
  · exact union_bad r t a b c d w h1 h2 _ _ f1 (Pl.pairF_a f1)
set_option maxHeartbeats 4000000 in
theorem inter_bad (r t : List Pl.Ivl) (a b : Option Addr) (c d : Nat) (w : World) (h1 : RIn w r a c) (h2 : RIn w t b d) (f1 f2 : Int) (hf : f1 ≠ 0) (e1 : Pl.pairF r t = (f1, f2)) :
    Calls Tryz.prog 21 #[.agg #[.slice a r.length c], .agg #[.slice b t.length d]] w (RRngF (Pl.opV (Pl.pairF r t) (Pl.commonR r t)) (Pl.opF (Pl.pairF r t) (Pl.commonR r t)) w) := by
  have E := Pl.op_bad (P := Pl.pairF r t) (r := Pl.commonR r t) (by rw [e1]; exact hf)
  rw [E.1, E.2, e1]
  have CB := Lib.hid (fun (W : World) (g1 : RIn W r a c) (g2 : RIn W t b d) => both_any r t a b c d W g1 g2)
  rw [e1] at CB
  simp only [fltV] at CB
  have H := Lib.hid h1
  have K := Lib.hid h2
  have u1 := bneT hf
  have u2 := beqF hf
  clear h1 h2 E e1 hf
  go_enter Tryz.func21, Tryz.ntmps21
  have B0 : Below w.heap.size w w := Below.refl _ _
  go_wp2_with fail
  refine (CB.out _ (H.out.below (by go_grown) (Nat.le_refl _)) (K.out.below (by go_grown) (Nat.le_refl _))).mono ?_
  rintro e w1 ⟨rfl, hb⟩
  have B1 : Below w.heap.size w w1 := bcall (by go_grown) hb (by go_size)
  have q1 : w.heap.size + 4 ≤ w1.heap.size := by have z := hb.size; (try simp only [World.size_alloc] at z); omega
  replace H := Lib.hid (((((H.out.below (Below.refl _ _ |>.alloc (Nat.le_refl _) _) (Nat.le_refl _)).below (Below.refl _ _ |>.alloc (Nat.le_refl _) _) (Nat.le_refl _)).below (Below.refl _ _ |>.alloc (Nat.le_refl _) _) (Nat.le_refl _)).below (Below.refl _ _ |>.alloc (Nat.le_refl _) _) (Nat.le_refl _)).below hb (Nat.le_refl _))
  replace K := Lib.hid (((((K.out.below (Below.refl _ _ |>.alloc (Nat.le_refl _) _) (Nat.le_refl _)).below (Below.refl _ _ |>.alloc (Nat.le_refl _) _) (Nat.le_refl _)).below (Below.refl _ _ |>.alloc (Nat.le_refl _) _) (Nat.le_refl _)).below (Below.refl _ _ |>.alloc (Nat.le_refl _) _) (Nat.le_refl _)).below hb (Nat.le_refl _))
  have X := (((((Bk.new (r := w.heap.size) (cs := [.slice a r.length c]) _ 24 (by simp)).alloc _).alloc _).alloc _)).below hb (by go_size)
  have Y := ((((Bk.new (r := w.heap.size + 1) (cs := [.slice b t.length d]) _ 24 (by simp)).alloc _).alloc _)).below hb (by go_size)
  have R := (((Bk.new (r := w.heap.size + 1 + 1) (cs := [.slice none 0 0]) _ 24 (by simp)).alloc _)).below hb (by go_size)
  have F := ((Bk.new (r := w.heap.size + 1 + 1 + 1) (cs := [.int .i64 0, .int .i64 0]) _ 29 (by simp))).below hb (by go_size)
  clear hb
  have s1 : w.heap.size ≤ w1.heap.size := B1.size
  obtain ⟨X_c, X_f, X_l⟩ := id X
  obtain ⟨Y_c, Y_f, Y_l⟩ := id Y
  obtain ⟨R_c, R_f, R_l⟩ := id R
  obtain ⟨F_c, F_f, F_l⟩ := id F
  go_wp2_with fail
  refine wp_region_ordD [(2, w.heap.size + 1 + 1), (3, w.heap.size + 1 + 1 + 1)] [0, 1, 2, 3] (by kernel_rfl) (by kernel_rfl) ?_
  have B2 : Below w.heap.size w (w1.alloc (.cells #[.int .i64 f1, .int .i64 f2] 29)).drew := by go_grown
  have q2 : w1.heap.size + 1 ≤ (w1.alloc (.cells #[.int .i64 f1, .int .i64 f2] 29)).drew.heap.size := by simp only [World.size_alloc, World.size_drew]; omega
  replace H := Lib.hid ((H.out.below (Below.refl _ _ |>.alloc (Nat.le_refl _) (.cells #[.int .i64 f1, .int .i64 f2] 29)) (Nat.le_refl _)).below (Below.refl _ _).drew (Nat.le_refl _))
  replace K := Lib.hid ((K.out.below (Below.refl _ _ |>.alloc (Nat.le_refl _) (.cells #[.int .i64 f1, .int .i64 f2] 29)) (Nat.le_refl _)).below (Below.refl _ _).drew (Nat.le_refl _))
  replace X := (X.alloc (.cells #[.int .i64 f1, .int .i64 f2] 29)).drew
  replace Y := (Y.alloc (.cells #[.int .i64 f1, .int .i64 f2] 29)).drew
  replace R := (R.alloc (.cells #[.int .i64 f1, .int .i64 f2] 29)).drew
  replace F := (F.alloc (.cells #[.int .i64 f1, .int .i64 f2] 29)).drew
  have T := (Bk.new (r := w1.heap.size) (cs := [.int .i64 f1, .int .i64 f2]) w1 29 (by simp)).drew
  clear X_c X_f X_l Y_c Y_f Y_l R_c R_f R_l F_c F_f F_l
  generalize (w1.alloc (.cells #[.int .i64 f1, .int .i64 f2] 29)).drew = w2 at *
  have s2 : w.heap.size ≤ w2.heap.size := B2.size
  obtain ⟨X_c, X_f, X_l⟩ := id X
  obtain ⟨Y_c, Y_f, Y_l⟩ := id Y
  obtain ⟨R_c, R_f, R_l⟩ := id R
  obtain ⟨F_c, F_f, F_l⟩ := id F
  obtain ⟨T_c, T_f, T_l⟩ := id T
  have nz : w1.heap.size ≠ w.heap.size + 1 + 1 := by omega
  repeat (refine wpD_pure rfl rfl ?_; go_big_quiet_step (fail); refine wpQuiet_nil ?_)
  refine wpD_rd [w.heap.size + 1 + 1] (by kernel_rfl) rfl rfl ?_; go_big_quiet_step (fail); refine wpQuiet_nil ?_
  try simp only [Act.put, List.setIfInBounds_toArray, List.set_cons_zero, List.set_cons_succ]
  refine wpD_st rfl rfl rfl (w' := w2.setCell ⟨w.heap.size + 1 + 1, 0, none⟩ (.slice none 0 0)) (by simp [go_sem, R_c, R_f]) ((ExtD.refl _ _).setCell (by exact List.mem_singleton.2 rfl) _) ?_
  try simp only [Act.put]
  have F2 := F.far (a := ⟨w.heap.size + 1 + 1, 0, none⟩) (by dsimp only; omega) (.slice none 0 0)
  obtain ⟨F2_c, F2_f, -⟩ := id F2
  refine wpD_st rfl rfl rfl (w' := ((w2.setCell ⟨w.heap.size + 1 + 1, 0, none⟩ (.slice none 0 0)).setCell ⟨w.heap.size + 1 + 1 + 1, 0, none⟩ (.int .i64 f1)).setCell ⟨w.heap.size + 1 + 1 + 1, 1, none⟩ (.int .i64 f2)) (by simp [go_sem, F2_c, F2_f]) (((ExtD.refl _ _).setCell (by exact List.mem_singleton.2 rfl) _).setCell (by exact List.mem_singleton.2 rfl) _) ?_
  refine wpD_nil ?_
  try simp only [Act.put]
  go_wp2_with fail
  have FN := (F2.set (k := 0) (by simp) (.int .i64 f1)).set (k := 1) (by simp) (.int .i64 f2)
  have RN := ((R.set (k := 0) (by simp) (.slice none 0 0)).far (a := ⟨w.heap.size + 1 + 1 + 1, 0, none⟩) (by dsimp only; omega) (.int .i64 f1)).far (a := ⟨w.heap.size + 1 + 1 + 1, 1, none⟩) (by dsimp only; omega) (.int .i64 f2)
  obtain ⟨FN_c, FN_f, FN_l⟩ := FN
  obtain ⟨RN_c, RN_f, RN_l⟩ := RN
  refine bodyPost_ret (v := .tuple #[.agg #[.slice none 0 0], .agg #[.int .i64 f1, .int .i64 f2]]) (by simp [results, Tryz.results21, go_sem, RN_c, FN_c]) rfl ⟨none, 0, rfl, RIn.nil _, by go_grown⟩
set_option maxHeartbeats 4000000 in
theorem inter_ok (r t : List Pl.Ivl) (a b : Option Addr) (c d : Nat) (w : World) (h1 : RIn w r a c) (h2 : RIn w t b d) (can1 : Pl.Can r) (can2 : Pl.Can t) (hn1 : r.length ≤ 12) (hn2 : t.length ≤ 12) (e1 : Pl.pairF r t = (0, 0)) :
    Calls Tryz.prog 21 #[.agg #[.slice a r.length c], .agg #[.slice b t.length d]] w (RRngF (Pl.opV (Pl.pairF r t) (Pl.commonR r t)) (Pl.opF (Pl.pairF r t) (Pl.commonR r t)) w) := by
  have E := Pl.op_ok (r := Pl.commonR r t)
  rw [e1, E.1, E.2]
  have CB := Lib.hid (fun (W : World) (g1 : RIn W r a c) (g2 : RIn W t b d) => both_any r t a b c d W g1 g2)
  rw [e1] at CB
  simp only [fltV] at CB
  have H := Lib.hid h1
  have K := Lib.hid h2
  have CJ := Lib.hid (fun (W : World) (g1 : RIn W r a c) (g2 : RIn W t b d) => meet_any r t a b c d W g1 g2 can1 can2 (by omega) (by omega))
  obtain ⟨V, hV⟩ : ∃ V, Pl.commonR r t = V := ⟨_, rfl⟩
  rw [hV] at CJ ⊢
  have CL := Lib.hid (fun (W : World) (o : Option Addr) (k : Nat) (g1 : RIn W V o k) => limited_any V o k W g1)
  obtain ⟨L, hL⟩ : ∃ L, Pl.limR V = L := ⟨_, rfl⟩
  obtain ⟨Q, hQ⟩ : ∃ Q, Pl.limF V = Q := ⟨_, rfl⟩
  rw [hL, hQ] at CL ⊢
  obtain ⟨y1, y2⟩ := Q
  delta RRngF at CL
  simp only [fltV] at CL
  clear hL hQ
  clear h1 h2 E e1 can1 can2 hV
  go_enter Tryz.func21, Tryz.ntmps21
  have B0 : Below w.heap.size w w := Below.refl _ _
  go_wp2_with fail
  refine (CB.out _ (H.out.below (by go_grown) (Nat.le_refl _)) (K.out.below (by go_grown) (Nat.le_refl _))).mono ?_
  rintro e w1 ⟨rfl, hb⟩
  have B1 : Below w.heap.size w w1 := bcall (by go_grown) hb (by go_size)
  have q1 : w.heap.size + 4 ≤ w1.heap.size := by have z := hb.size; (try simp only [World.size_alloc] at z); omega
  replace H := Lib.hid (((((H.out.below (Below.refl _ _ |>.alloc (Nat.le_refl _) _) (Nat.le_refl _)).below (Below.refl _ _ |>.alloc (Nat.le_refl _) _) (Nat.le_refl _)).below (Below.refl _ _ |>.alloc (Nat.le_refl _) _) (Nat.le_refl _)).below (Below.refl _ _ |>.alloc (Nat.le_refl _) _) (Nat.le_refl _)).below hb (Nat.le_refl _))
  replace K := Lib.hid (((((K.out.below (Below.refl _ _ |>.alloc (Nat.le_refl _) _) (Nat.le_refl _)).below (Below.refl _ _ |>.alloc (Nat.le_refl _) _) (Nat.le_refl _)).below (Below.refl _ _ |>.alloc (Nat.le_refl _) _) (Nat.le_refl _)).below (Below.refl _ _ |>.alloc (Nat.le_refl _) _) (Nat.le_refl _)).below hb (Nat.le_refl _))
  have X := (((((Bk.new (r := w.heap.size) (cs := [.slice a r.length c]) _ 24 (by simp)).alloc _).alloc _).alloc _)).below hb (by go_size)
  have Y := ((((Bk.new (r := w.heap.size + 1) (cs := [.slice b t.length d]) _ 24 (by simp)).alloc _).alloc _)).below hb (by go_size)
  have R := (((Bk.new (r := w.heap.size + 1 + 1) (cs := [.slice none 0 0]) _ 24 (by simp)).alloc _)).below hb (by go_size)
  have F := ((Bk.new (r := w.heap.size + 1 + 1 + 1) (cs := [.int .i64 0, .int .i64 0]) _ 29 (by simp))).below hb (by go_size)
  clear hb
  have s1 : w.heap.size ≤ w1.heap.size := B1.size
  obtain ⟨X_c, X_f, X_l⟩ := id X
  obtain ⟨Y_c, Y_f, Y_l⟩ := id Y
  obtain ⟨R_c, R_f, R_l⟩ := id R
  obtain ⟨F_c, F_f, F_l⟩ := id F
  go_wp2_with fail
  refine (CJ.out _ (H.out.below (by go_grown) (Nat.le_refl _)) (K.out.below (by go_grown) (Nat.le_refl _))).mono ?_
  rintro e w2 ⟨o3, k3, rfl, A3, hb⟩
  replace A3 := Lib.hid A3
  have B2 : Below w.heap.size w w2 := bcall (by go_grown) hb (by go_size)
  have q2 : w1.heap.size + 1 ≤ w2.heap.size := by have z := hb.size; (try simp only [World.size_alloc] at z); omega
  replace H := Lib.hid ((H.out.below (Below.refl _ _ |>.alloc (Nat.le_refl _) _) (Nat.le_refl _)).below hb (Nat.le_refl _))
  replace K := Lib.hid ((K.out.below (Below.refl _ _ |>.alloc (Nat.le_refl _) _) (Nat.le_refl _)).below hb (Nat.le_refl _))
  replace X := ((X.alloc _)).below hb (by go_size)
  replace Y := ((Y.alloc _)).below hb (by go_size)
  replace R := ((R.alloc _)).below hb (by go_size)
  replace F := ((F.alloc _)).below hb (by go_size)
  clear hb
  have s2 : w.heap.size ≤ w2.heap.size := B2.size
  clear X_c X_f X_l Y_c Y_f Y_l R_c R_f R_l F_c F_f F_l
  obtain ⟨X_c, X_f, X_l⟩ := id X
  obtain ⟨Y_c, Y_f, Y_l⟩ := id Y
  obtain ⟨R_c, R_f, R_l⟩ := id R
  obtain ⟨F_c, F_f, F_l⟩ := id F
  go_wp2_with fail
  refine (CL.out _ o3 k3 A3.out).mono ?_
  rintro e w3 ⟨o4, k4, rfl, A4, hb⟩
  replace A4 := Lib.hid A4
  have B3 : Below w.heap.size w w3 := bcall (by go_grown) hb (by go_size)
  have q3 : w2.heap.size + 0 ≤ w3.heap.size := by have z := hb.size; (try simp only [World.size_alloc, World.size_setCell, World.size_drew] at z); omega
  replace A3 := Lib.hid (A3.out.below hb (Nat.le_refl _))
  replace X := (X).below hb (by go_size)
  replace Y := (Y).below hb (by go_size)
  replace R := (R).below hb (by go_size)
  replace F := (F).below hb (by go_size)
  clear hb
  have s3 : w.heap.size ≤ w3.heap.size := B3.size
  clear X_c X_f X_l Y_c Y_f Y_l R_c R_f R_l F_c F_f F_l
  obtain ⟨X_c, X_f, X_l⟩ := id X
  obtain ⟨Y_c, Y_f, Y_l⟩ := id Y
  obtain ⟨R_c, R_f, R_l⟩ := id R
  obtain ⟨F_c, F_f, F_l⟩ := id F
  go_wp2_with fail
  have RN := ((R.set (k := 0) (by simp) (.slice o4 L.length k4)).far (a := ⟨w.heap.size + 1 + 1 + 1, 0, none⟩) (by dsimp only; omega) (.int .i64 y1)).far (a := ⟨w.heap.size + 1 + 1 + 1, 1, none⟩) (by dsimp only; omega) (.int .i64 y2)
  have F1 := F.far (a := ⟨w.heap.size + 1 + 1, 0, none⟩) (by dsimp only; omega) (.slice o4 L.length k4)
  have FN := (F1.set (k := 0) (by simp) (.int .i64 y1)).set (k := 1) (by simp) (.int .i64 y2)
  obtain ⟨RN_c, RN_f, RN_l⟩ := RN
  obtain ⟨FN_c, FN_f, FN_l⟩ := FN
  refine bodyPost_ret (v := .tuple #[.agg #[.slice o4 L.length k4], .agg #[.int .i64 y1, .int .i64 y2]]) (by simp [results, Tryz.results21, go_sem, RN_c, FN_c]) rfl ⟨o4, k4, rfl, ((A4.out.setBk R (by simp) (j := 0) rfl (fun _ h => by cases h) _).setBk F1 (by simp) (j := 0) rfl (fun _ h => by cases h) _).setBk (F1.set (k := 0) (by simp) (.int .i64 y1)) (by simp) (j := 1) rfl (fun _ h => by cases h) _, by go_grown⟩
theorem inter_any (r t : List Pl.Ivl) (a b : Option Addr) (c d : Nat) (w : World) (h1 : RIn w r a c) (h2 : RIn w t b d) :
    Calls Tryz.prog 21 #[.agg #[.slice a r.length c], .agg #[.slice b t.length d]] w (RRngF (Pl.opV (Pl.pairF r t) (Pl.commonR r t)) (Pl.opF (Pl.pairF r t) (Pl.commonR r t)) w) := by
  by_cases f1 : (Pl.rngF r).1 = 0
  · by_cases f2 : (Pl.rngF t).1 = 0
    · exact inter_ok r t a b c d w h1 h2 (Pl.rng_ok f1).2 (Pl.rng_ok f2).2 (Pl.rng_ok f1).1 (Pl.rng_ok f2).1 (Pl.pairF_ok f1 f2)
    · exact inter_bad r t a b c d w h1 h2 _ _ f2 (Pl.pairF_b f1 f2)
  · exact inter_bad r t a b c d w h1 h2 _ _ f1 (Pl.pairF_a f1)
set_option maxHeartbeats 4000000 in
theorem compl_bad (r : List Pl.Ivl) (a : Option Addr) (c : Nat) (w : World) (h1 : RIn w r a c) (f1 f2 : Int) (hf : f1 ≠ 0) (e1 : Pl.rngF r = (f1, f2)) :
    Calls Tryz.prog 22 #[.agg #[.slice a r.length c]] w (RRngF (Pl.opV (Pl.rngF r) (Pl.invR r)) (Pl.opF (Pl.rngF r) (Pl.invR r)) w) := by
  have E := Pl.op_bad (P := Pl.rngF r) (r := Pl.invR r) (by rw [e1]; exact hf)
  rw [E.1, E.2, e1]
  have CB := Lib.hid (fun (W : World) (g1 : RIn W r a c) => rngValidate_any r a c W g1)
  rw [e1] at CB
  simp only [fltV] at CB
  have H := Lib.hid h1
  have u1 := bneT hf
  have u2 := beqF hf
  clear h1 E e1 hf
  go_enter Tryz.func22, Tryz.ntmps22
  have B0 : Below w.heap.size w w := Below.refl _ _
  go_wp2_with fail
  refine (CB.out _ (H.out.below (by go_grown) (Nat.le_refl _))).mono ?_
  rintro e w1 ⟨rfl, hb⟩
  have B1 : Below w.heap.size w w1 := bcall (by go_grown) hb (by go_size)
  have q1 : w.heap.size + 3 ≤ w1.heap.size := by have z := hb.size; (try simp only [World.size_alloc] at z); omega
  replace H := Lib.hid ((((H.out.below (Below.refl _ _ |>.alloc (Nat.le_refl _) _) (Nat.le_refl _)).below (Below.refl _ _ |>.alloc (Nat.le_refl _) _) (Nat.le_refl _)).below (Below.refl _ _ |>.alloc (Nat.le_refl _) _) (Nat.le_refl _)).below hb (Nat.le_refl _))
  have X := ((((Bk.new (r := w.heap.size) (cs := [.slice a r.length c]) _ 24 (by simp)).alloc _).alloc _)).below hb (by go_size)
  have R := (((Bk.new (r := w.heap.size + 1) (cs := [.slice none 0 0]) _ 24 (by simp)).alloc _)).below hb (by go_size)
  have F := ((Bk.new (r := w.heap.size + 1 + 1) (cs := [.int .i64 0, .int .i64 0]) _ 29 (by simp))).below hb (by go_size)
  clear hb
  have s1 : w.heap.size ≤ w1.heap.size := B1.size
  obtain ⟨X_c, X_f, X_l⟩ := id X
  obtain ⟨R_c, R_f, R_l⟩ := id R
  obtain ⟨F_c, F_f, F_l⟩ := id F
  go_wp2_with fail
  refine wp_region_ordD [(2, w.heap.size + 1), (3, w.heap.size + 1 + 1)] [0, 1, 2, 3] (by kernel_rfl) (by kernel_rfl) ?_
  have B2 : Below w.heap.size w (w1.alloc (.cells #[.int .i64 f1, .int .i64 f2] 29)).drew := by go_grown
  have q2 : w1.heap.size + 1 ≤ (w1.alloc (.cells #[.int .i64 f1, .int .i64 f2] 29)).drew.heap.size := by simp only [World.size_alloc, World.size_drew]; omega
  replace H := Lib.hid ((H.out.below (Below.refl _ _ |>.alloc (Nat.le_refl _) (.cells #[.int .i64 f1, .int .i64 f2] 29)) (Nat.le_refl _)).below (Below.refl _ _).drew (Nat.le_refl _))
  replace X := (X.alloc (.cells #[.int .i64 f1, .int .i64 f2] 29)).drew
  replace R := (R.alloc (.cells #[.int .i64 f1, .int .i64 f2] 29)).drew
  replace F := (F.alloc (.cells #[.int .i64 f1, .int .i64 f2] 29)).drew
  have T := (Bk.new (r := w1.heap.size) (cs := [.int .i64 f1, .int .i64 f2]) w1 29 (by simp)).drew
  clear X_c X_f X_l R_c R_f R_l F_c F_f F_l
  generalize (w1.alloc (.cells #[.int .i64 f1, .int .i64 f2] 29)).drew = w2 at *
  have s2 : w.heap.size ≤ w2.heap.size := B2.size
  obtain ⟨X_c, X_f, X_l⟩ := id X
  obtain ⟨R_c, R_f, R_l⟩ := id R
  obtain ⟨F_c, F_f, F_l⟩ := id F
  obtain ⟨T_c, T_f, T_l⟩ := id T
  have nz : w1.heap.size ≠ w.heap.size + 1 := by omega
  repeat (refine wpD_pure rfl rfl ?_; go_big_quiet_step (fail); refine wpQuiet_nil ?_)
  refine wpD_rd [w.heap.size + 1] (by kernel_rfl) rfl rfl ?_; go_big_quiet_step (fail); refine wpQuiet_nil ?_
  try simp only [Act.put, List.setIfInBounds_toArray, List.set_cons_zero, List.set_cons_succ]
  refine wpD_st rfl rfl rfl (w' := w2.setCell ⟨w.heap.size + 1, 0, none⟩ (.slice none 0 0)) (by simp [go_sem, R_c, R_f]) ((ExtD.refl _ _).setCell (by exact List.mem_singleton.2 rfl) _) ?_
  try simp only [Act.put]
  have F2 := F.far (a := ⟨w.heap.size + 1, 0, none⟩) (by dsimp only; omega) (.slice none 0 0)
  obtain ⟨F2_c, F2_f, -⟩ := id F2
  refine wpD_st rfl rfl rfl (w' := ((w2.setCell ⟨w.heap.size + 1, 0, none⟩ (.slice none 0 0)).setCell ⟨w.heap.size + 1 + 1, 0, none⟩ (.int .i64 f1)).setCell ⟨w.heap.size + 1 + 1, 1, none⟩ (.int .i64 f2)) (by simp [go_sem, F2_c, F2_f]) (((ExtD.refl _ _).setCell (by exact List.mem_singleton.2 rfl) _).setCell (by exact List.mem_singleton.2 rfl) _) ?_
  refine wpD_nil ?_
  try simp only [Act.put]
  go_wp2_with fail
  have FN := (F2.set (k := 0) (by simp) (.int .i64 f1)).set (k := 1) (by simp) (.int .i64 f2)
  have RN := ((R.set (k := 0) (by simp) (.slice none 0 0)).far (a := ⟨w.heap.size + 1 + 1, 0, none⟩) (by dsimp only; omega) (.int .i64 f1)).far (a := ⟨w.heap.size + 1 + 1, 1, none⟩) (by dsimp only; omega) (.int .i64 f2)
  obtain ⟨FN_c, FN_f, FN_l⟩ := FN
  obtain ⟨RN_c, RN_f, RN_l⟩ := RN
  refine bodyPost_ret (v := .tuple #[.agg #[.slice none 0 0], .agg #[.int .i64 f1, .int .i64 f2]]) (by simp [results, Tryz.results22, go_sem, RN_c, FN_c]) rfl ⟨none, 0, rfl, RIn.nil _, by go_grown⟩
set_option maxHeartbeats 4000000 in
theorem compl_ok (r : List Pl.Ivl) (a : Option Addr) (c : Nat) (w : World) (h1 : RIn w r a c) (can1 : Pl.Can r) (hn1 : r.length ≤ 12) (e1 : Pl.rngF r = (0, 0)) :
    Calls Tryz.prog 22 #[.agg #[.slice a r.length c]] w (RRngF (Pl.opV (Pl.rngF r) (Pl.invR r)) (Pl.opF (Pl.rngF r) (Pl.invR r)) w) := by
  have E := Pl.op_ok (r := Pl.invR r)
  rw [e1, E.1, E.2]
  have CB := Lib.hid (fun (W : World) (g1 : RIn W r a c) => rngValidate_any r a c W g1)
  rw [e1] at CB
  simp only [fltV] at CB
  have H := Lib.hid h1
  have CJ := Lib.hid (fun (W : World) (g1 : RIn W r a c) => invert_any r a c W g1 can1 (by omega))
  obtain ⟨V, hV⟩ : ∃ V, Pl.invR r = V := ⟨_, rfl⟩
  rw [hV] at CJ ⊢
  have CL := Lib.hid (fun (W : World) (o : Option Addr) (k : Nat) (g1 : RIn W V o k) => limited_any V o k W g1)
  obtain ⟨L, hL⟩ : ∃ L, Pl.limR V = L := ⟨_, rfl⟩
  obtain ⟨Q, hQ⟩ : ∃ Q, Pl.limF V = Q := ⟨_, rfl⟩
  rw [hL, hQ] at CL ⊢
  obtain ⟨y1, y2⟩ := Q
  delta RRngF at CL
  simp only [fltV] at CL
  clear hL hQ
  clear h1 E e1 can1 hV
  go_enter Tryz.func22, Tryz.ntmps22
  have B0 : Below w.heap.size w w := Below.refl _ _
  go_wp2_with fail
  refine (CB.out _ (H.out.below (by go_grown) (Nat.le_refl _))).mono ?_
  rintro e w1 ⟨rfl, hb⟩
  have B1 : Below w.heap.size w w1 := bcall (by go_grown) hb (by go_size)
  have q1 : w.heap.size + 3 ≤ w1.heap.size := by have z := hb.size; (try simp only [World.size_alloc] at z); omega
  replace H := Lib.hid ((((H.out.below (Below.refl _ _ |>.alloc (Nat.le_refl _) _) (Nat.le_refl _)).below (Below.refl _ _ |>.alloc (Nat.le_refl _) _) (Nat.le_refl _)).below (Below.refl _ _ |>.alloc (Nat.le_refl _) _) (Nat.le_refl _)).below hb (Nat.le_refl _))
  have X := ((((Bk.new (r := w.heap.size) (cs := [.slice a r.length c]) _ 24 (by simp)).alloc _).alloc _)).below hb (by go_size)
  have R := (((Bk.new (r := w.heap.size + 1) (cs := [.slice none 0 0]) _ 24 (by simp)).alloc _)).below hb (by go_size)
  have F := ((Bk.new (r := w.heap.size + 1 + 1) (cs := [.int .i64 0, .int .i64 0]) _ 29 (by simp))).below hb (by go_size)
  clear hb
  have s1 : w.heap.size ≤ w1.heap.size := B1.size
  obtain ⟨X_c, X_f, X_l⟩ := id X
  obtain ⟨R_c, R_f, R_l⟩ := id R
  obtain ⟨F_c, F_f, F_l⟩ := id F
  go_wp2_with fail
  refine (CJ.out _ (H.out.below (by go_grown) (Nat.le_refl _))).mono ?_
  rintro e w2 ⟨o3, k3, rfl, A3, hb⟩
  replace A3 := Lib.hid A3
  have B2 : Below w.heap.size w w2 := bcall (by go_grown) hb (by go_size)
  have q2 : w1.heap.size + 1 ≤ w2.heap.size := by have z := hb.size; (try simp only [World.size_alloc] at z); omega
  replace H := Lib.hid ((H.out.below (Below.refl _ _ |>.alloc (Nat.le_refl _) _) (Nat.le_refl _)).below hb (Nat.le_refl _))
  replace X := ((X.alloc _)).below hb (by go_size)
  replace R := ((R.alloc _)).below hb (by go_size)
  replace F := ((F.alloc _)).below hb (by go_size)
  clear hb
  have s2 : w.heap.size ≤ w2.heap.size := B2.size
  clear X_c X_f X_l R_c R_f R_l F_c F_f F_l
  obtain ⟨X_c, X_f, X_l⟩ := id X
  obtain ⟨R_c, R_f, R_l⟩ := id R
  obtain ⟨F_c, F_f, F_l⟩ := id F
  go_wp2_with fail
  refine (CL.out _ o3 k3 A3.out).mono ?_
  rintro e w3 ⟨o4, k4, rfl, A4, hb⟩
  replace A4 := Lib.hid A4
  have B3 : Below w.heap.size w w3 := bcall (by go_grown) hb (by go_size)
  have q3 : w2.heap.size + 0 ≤ w3.heap.size := by have z := hb.size; (try simp only [World.size_alloc, World.size_setCell, World.size_drew] at z); omega
  replace A3 := Lib.hid (A3.out.below hb (Nat.le_refl _))
  replace X := (X).below hb (by go_size)
  replace R := (R).below hb (by go_size)
  replace F := (F).below hb (by go_size)
  clear hb
  have s3 : w.heap.size ≤ w3.heap.size := B3.size
  clear X_c X_f X_l R_c R_f R_l F_c F_f F_l
  obtain ⟨X_c, X_f, X_l⟩ := id X
  obtain ⟨R_c, R_f, R_l⟩ := id R
  obtain ⟨F_c, F_f, F_l⟩ := id F
  go_wp2_with fail
  have RN := ((R.set (k := 0) (by simp) (.slice o4 L.length k4)).far (a := ⟨w.heap.size + 1 + 1, 0, none⟩) (by dsimp only; omega) (.int .i64 y1)).far (a := ⟨w.heap.size + 1 + 1, 1, none⟩) (by dsimp only; omega) (.int .i64 y2)
  have F1 := F.far (a := ⟨w.heap.size + 1, 0, none⟩) (by dsimp only; omega) (.slice o4 L.length k4)
  have FN := (F1.set (k := 0) (by simp) (.int .i64 y1)).set (k := 1) (by simp) (.int .i64 y2)
  obtain ⟨RN_c, RN_f, RN_l⟩ := RN
  obtain ⟨FN_c, FN_f, FN_l⟩ := FN
  refine bodyPost_ret (v := .tuple #[.agg #[.slice o4 L.length k4], .agg #[.int .i64 y1, .int .i64 y2]]) (by simp [results, Tryz.results22, go_sem, RN_c, FN_c]) rfl ⟨o4, k4, rfl, ((A4.out.setBk R (by simp) (j := 0) rfl (fun _ h => by cases h) _).setBk F1 (by simp) (j := 0) rfl (fun _ h => by cases h) _).setBk (F1.set (k := 0) (by simp) (.int .i64 y1)) (by simp) (j := 1) rfl (fun _ h => by cases h) _, by go_grown⟩
theorem compl_any (r : List Pl.Ivl) (a : Option Addr) (c : Nat) (w : World) (h1 : RIn w r a c) :
    Calls Tryz.prog 22 #[.agg #[.slice a r.length c]] w (RRngF (Pl.opV (Pl.rngF r) (Pl.invR r)) (Pl.opF (Pl.rngF r) (Pl.invR r)) w) := by
  by_cases f1 : (Pl.rngF r).1 = 0
  · exact compl_ok r a c w h1 (Pl.rng_ok f1).2 (Pl.rng_ok f1).1 (Pl.rng_zero f1)
  · exact compl_bad r a c w h1 _ _ f1 rfl
end Go.Proofs.YtjfkmbehckdjlaaGreatDoor
