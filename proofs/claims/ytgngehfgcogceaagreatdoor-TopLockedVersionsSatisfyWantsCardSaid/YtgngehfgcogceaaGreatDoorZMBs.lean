/- Texts joined: Dk Bp Wh Br Bs. -/
import Derived.Test.YtgngehfgcogceaaGreatDoorZDj
import Derived.Test.YtgngehfgcogceaaGreatDoorZMOs
import Derived.Test.YtgngehfgcogceaaGreatDoorZMBn
import Derived.Test.YtgngehfgcogceaaGreatDoorZMPo
import Derived.Test.YtgngehfgcogceaaGreatDoorZMKb
import Derived.Test.YtgngehfgcogceaaGreatDoorZKn
section
/- Contracts: intersections; unions, intersections and complements with their faults, by the program. -/
namespace Go.Proofs.YtgngehfgcogceaaGreatDoor
open Go.RowKit

namespace Pl
theorem invAt_len : ∀ (r : List Ivl) (low : Ver), (invAt low r).length ≤ r.length + 1
  | [], _ => by simp [invAt]
  | x :: r, low => by
    rw [invAt, List.length_append]
    have := invAt_len r x.hi
    by_cases h1 : verCmp low x.lo < 0 <;> by_cases h2 : x.un = true <;> simp [h1, h2] <;> omega
theorem invR_len (r : List Ivl) : (invR r).length ≤ r.length + 1 := invAt_len r lowV
theorem addL_len (o : List Ivl) (x : Ivl) : (addL o x).length ≤ o.length + 1 := by
  rcases List.eq_nil_or_concat o with rfl | ⟨q, l, e⟩
  · simp [addL]
  · rw [List.concat_eq_append] at e
    subst e
    rw [addL_snoc]
    repeat' split
    all_goals simp
theorem fold_len : ∀ (s o : List Ivl), (s.foldl addL o).length ≤ o.length + s.length
  | [], o => by simp
  | x :: s, o => by
    have h1 := fold_len s (addL o x)
    have h2 := addL_len o x
    rw [List.foldl_cons, List.length_cons]
    omega
theorem insI_len (x : Ivl) : ∀ r : List Ivl, (insI x r).length = r.length + 1
  | [] => rfl
  | y :: r => by rw [insI]; split <;> simp [insI_len x r]
theorem withR_len (r : List Ivl) (x : Ivl) : (withR r x).length ≤ r.length + 1 := by
  have := fold_len (insI x r) []
  rw [insI_len] at this
  unfold withR
  simpa using this
theorem unionR_len : ∀ (b a : List Ivl), (unionR a b).length ≤ a.length + b.length
  | [], a => by simp [unionR]
  | x :: b, a => by
    have h1 := unionR_len b (withR a x)
    have h2 := withR_len a x
    rw [show unionR a (x :: b) = unionR (withR a x) b from rfl, List.length_cons]
    omega
end Pl
set_option maxRecDepth 100000 in
set_option maxHeartbeats 4000000 in
theorem meet_any (r t : List Pl.Ivl) (a b : Option Addr) (c d : Nat) (w : World) (h1 : RIn w r a c) (h2 : RIn w t b d) (can1 : Pl.Can r) (can2 : Pl.Can t) (hn1 : r.length ≤ 400000) (hn2 : t.length ≤ 400000) :
    Calls Tryz.prog 32 #[.agg #[.slice a r.length c], .agg #[.slice b t.length d]] w (RRng (Pl.commonR r t) w) := by
  have H := Lib.hid h1
  have K := Lib.hid h2
  have C1 := Lib.hid can1
  have C2 := Lib.hid can2
  have I1 := Lib.hid (Pl.invR_can can1).1
  have I2 := Lib.hid (Pl.invR_can can2).1
  have U := Lib.hid (Pl.unionR_can (Pl.invR_can can1).1 (Pl.invR_can can2).1.ok).1
  have E := Lib.hid (Pl.meet_is can1 can2)
  have n1 := Pl.invR_len r
  have n2 := Pl.invR_len t
  have n3 := Pl.unionR_len (Pl.invR t) (Pl.invR r)
  clear h1 h2 can1 can2
  go_enter Tryz.func32, Tryz.ntmps32
  have B0 : Below w.heap.size w w := Below.refl _ _
  go_wp2_with fail
  refine wp_region_ord [0, 2, 1, 3, 4, 5, 6] (by kernel_rfl) (by kernel_rfl) ?_
  have B1 : Below w.heap.size w (((w.alloc (.cells #[.slice a r.length c] 44)).alloc (.cells #[.slice b t.length d] 44)).alloc (.cells #[.slice none 0 0] 44)).drew := by go_grown
  have q1 : w.heap.size + 3 ≤ (((w.alloc (.cells #[.slice a r.length c] 44)).alloc (.cells #[.slice b t.length d] 44)).alloc (.cells #[.slice none 0 0] 44)).drew.heap.size := by simp only [World.size_alloc, World.size_drew]; omega
  replace H := Lib.hid ((((H.out.below (Below.refl _ _ |>.alloc (Nat.le_refl _) (.cells #[.slice a r.length c] 44)) (Nat.le_refl _)).below (Below.refl _ _ |>.alloc (Nat.le_refl _) (.cells #[.slice b t.length d] 44)) (Nat.le_refl _)).below (Below.refl _ _ |>.alloc (Nat.le_refl _) (.cells #[.slice none 0 0] 44)) (Nat.le_refl _)).below (Below.refl _ _).drew (Nat.le_refl _))
  replace K := Lib.hid ((((K.out.below (Below.refl _ _ |>.alloc (Nat.le_refl _) (.cells #[.slice a r.length c] 44)) (Nat.le_refl _)).below (Below.refl _ _ |>.alloc (Nat.le_refl _) (.cells #[.slice b t.length d] 44)) (Nat.le_refl _)).below (Below.refl _ _ |>.alloc (Nat.le_refl _) (.cells #[.slice none 0 0] 44)) (Nat.le_refl _)).below (Below.refl _ _).drew (Nat.le_refl _))
  have X := (((Bk.new (r := w.heap.size) (cs := [.slice a r.length c]) w 44 (by simp)).alloc (.cells #[.slice b t.length d] 44)).alloc (.cells #[.slice none 0 0] 44)).drew
  have Y := ((Bk.new (r := w.heap.size + 1) (cs := [.slice b t.length d]) (w.alloc (.cells #[.slice a r.length c] 44)) 44 (by simp)).alloc (.cells #[.slice none 0 0] 44)).drew
  have R := (Bk.new (r := w.heap.size + 1 + 1) (cs := [.slice none 0 0]) ((w.alloc (.cells #[.slice a r.length c] 44)).alloc (.cells #[.slice b t.length d] 44)) 44 (by simp)).drew
  generalize (((w.alloc (.cells #[.slice a r.length c] 44)).alloc (.cells #[.slice b t.length d] 44)).alloc (.cells #[.slice none 0 0] 44)).drew = w1 at *
  have s1 : w.heap.size ≤ w1.heap.size := B1.size
  obtain ⟨X_c, X_f, X_l⟩ := id X
  obtain ⟨Y_c, Y_f, Y_l⟩ := id Y
  obtain ⟨R_c, R_f, R_l⟩ := id R
  repeat (refine wpI_rd rfl rfl ?_; go_big_quiet_step (fail); refine wpQuiet_nil ?_)
  try simp only [Act.put, List.setIfInBounds_toArray, List.set_cons_zero, List.set_cons_succ]
  refine wpI_call (f := 56) (args := #[.agg #[.slice a r.length c]]) rfl rfl rfl (by simp [go_sem]) ?_
  refine (invert_any r a c _ H.out C1.out (by omega)).mono ?_
  rintro e w2 ⟨o1, k1, rfl, A1, hb⟩
  replace A1 := Lib.hid A1
  refine ⟨_, rfl, hb, ?_⟩
  skip
  have B2 : Below w.heap.size w w2 := bcall (by go_grown) hb (by go_size)
  have q2 : w1.heap.size + 0 ≤ w2.heap.size := by have z := hb.size; (try simp only [World.size_alloc, World.size_setCell, World.size_drew] at z); omega
  replace H := Lib.hid (H.out.below hb (Nat.le_refl _))
  replace K := Lib.hid (K.out.below hb (Nat.le_refl _))
  replace X := (X).below hb (by go_size)
  replace Y := (Y).below hb (by go_size)
  replace R := (R).below hb (by go_size)
  clear hb
  have s2 : w.heap.size ≤ w2.heap.size := B2.size
  clear X_c X_f X_l Y_c Y_f Y_l R_c R_f R_l
  obtain ⟨X_c, X_f, X_l⟩ := id X
  obtain ⟨Y_c, Y_f, Y_l⟩ := id Y
  obtain ⟨R_c, R_f, R_l⟩ := id R
  try simp only [Act.put, List.setIfInBounds_toArray, List.set_cons_zero, List.set_cons_succ]
  repeat (refine wpI_rd rfl rfl ?_; go_big_quiet_step (fail); refine wpQuiet_nil ?_)
  try simp only [Act.put, List.setIfInBounds_toArray, List.set_cons_zero, List.set_cons_succ]
  refine wpI_call (f := 56) (args := #[.agg #[.slice b t.length d]]) rfl rfl rfl (by simp [go_sem]) ?_
  refine (invert_any t b d _ K.out C2.out (by omega)).mono ?_
  rintro e w3 ⟨o2, k2, rfl, A2, hb⟩
  replace A2 := Lib.hid A2
  refine ⟨_, rfl, hb, ?_⟩
  skip
  have B3 : Below w.heap.size w w3 := bcall (by go_grown) hb (by go_size)
  have q3 : w2.heap.size + 0 ≤ w3.heap.size := by have z := hb.size; (try simp only [World.size_alloc, World.size_setCell, World.size_drew] at z); omega
  replace H := Lib.hid (H.out.below hb (Nat.le_refl _))
  replace K := Lib.hid (K.out.below hb (Nat.le_refl _))
  replace A1 := Lib.hid (A1.out.below hb (Nat.le_refl _))
  replace X := (X).below hb (by go_size)
  replace Y := (Y).below hb (by go_size)
  replace R := (R).below hb (by go_size)
  clear hb
  have s3 : w.heap.size ≤ w3.heap.size := B3.size
  clear X_c X_f X_l Y_c Y_f Y_l R_c R_f R_l
  obtain ⟨X_c, X_f, X_l⟩ := id X
  obtain ⟨Y_c, Y_f, Y_l⟩ := id Y
  obtain ⟨R_c, R_f, R_l⟩ := id R
  try simp only [Act.put, List.setIfInBounds_toArray, List.set_cons_zero, List.set_cons_succ]
  repeat (refine wpI_rd rfl rfl ?_; go_big_quiet_step (fail); refine wpQuiet_nil ?_)
  try simp only [Act.put, List.setIfInBounds_toArray, List.set_cons_zero, List.set_cons_succ]
  refine wpI_call (f := 33) (args := #[.agg #[.slice o1 (Pl.invR r).length k1], .agg #[.slice o2 (Pl.invR t).length k2]]) rfl rfl rfl (by simp [go_sem]) ?_
  refine (join_any (Pl.invR r) (Pl.invR t) o1 o2 k1 k2 _ A1.out A2.out I1.out I2.out (by omega) (by omega)).mono ?_
  rintro e w4 ⟨o3, k3, rfl, A3, hb⟩
  replace A3 := Lib.hid A3
  refine ⟨_, rfl, hb, ?_⟩
  skip
  have B4 : Below w.heap.size w w4 := bcall (by go_grown) hb (by go_size)
  have q4 : w3.heap.size + 0 ≤ w4.heap.size := by have z := hb.size; (try simp only [World.size_alloc, World.size_setCell, World.size_drew] at z); omega
  replace H := Lib.hid (H.out.below hb (Nat.le_refl _))
  replace K := Lib.hid (K.out.below hb (Nat.le_refl _))
  replace A1 := Lib.hid (A1.out.below hb (Nat.le_refl _))
  replace A2 := Lib.hid (A2.out.below hb (Nat.le_refl _))
  replace X := (X).below hb (by go_size)
  replace Y := (Y).below hb (by go_size)
  replace R := (R).below hb (by go_size)
  clear hb
  have s4 : w.heap.size ≤ w4.heap.size := B4.size
  clear X_c X_f X_l Y_c Y_f Y_l R_c R_f R_l
  obtain ⟨X_c, X_f, X_l⟩ := id X
  obtain ⟨Y_c, Y_f, Y_l⟩ := id Y
  obtain ⟨R_c, R_f, R_l⟩ := id R
  try simp only [Act.put, List.setIfInBounds_toArray, List.set_cons_zero, List.set_cons_succ]
  repeat (refine wpI_rd rfl rfl ?_; go_big_quiet_step (fail); refine wpQuiet_nil ?_)
  try simp only [Act.put, List.setIfInBounds_toArray, List.set_cons_zero, List.set_cons_succ]
  refine wpI_call (f := 56) (args := #[.agg #[.slice o3 (Pl.unionR (Pl.invR r) (Pl.invR t)).length k3]]) rfl rfl rfl (by simp [go_sem]) ?_
  refine (invert_any _ o3 k3 _ A3.out U.out (by omega)).mono ?_
  rintro e w5 ⟨o4, k4, rfl, A4, hb⟩
  rw [E.out] at A4 ⊢
  replace A4 := Lib.hid A4
  refine ⟨_, rfl, hb, ?_⟩
  skip
  have B5 : Below w.heap.size w w5 := bcall (by go_grown) hb (by go_size)
  have q5 : w4.heap.size + 0 ≤ w5.heap.size := by have z := hb.size; (try simp only [World.size_alloc, World.size_setCell, World.size_drew] at z); omega
  replace A3 := Lib.hid (A3.out.below hb (Nat.le_refl _))
  replace X := (X).below hb (by go_size)
  replace Y := (Y).below hb (by go_size)
  replace R := (R).below hb (by go_size)
  clear hb
  have s5 : w.heap.size ≤ w5.heap.size := B5.size
  clear X_c X_f X_l Y_c Y_f Y_l R_c R_f R_l
  obtain ⟨X_c, X_f, X_l⟩ := id X
  obtain ⟨Y_c, Y_f, Y_l⟩ := id Y
  obtain ⟨R_c, R_f, R_l⟩ := id R
  try simp only [Act.put, List.setIfInBounds_toArray, List.set_cons_zero, List.set_cons_succ]
  refine wpI_st rfl rfl rfl (w' := w5.setCell ⟨w.heap.size + 1 + 1, 0, none⟩ (.slice o4 (Pl.commonR r t).length k4)) (by simp [go_sem, R_c, R_f]) ?_
  try simp only [Act.put]
  refine wpI_nil ?_
  try simp only [Act.put, List.setIfInBounds_toArray, List.set_cons_zero, List.set_cons_succ]
  go_wp2_with fail
  have RN := R.set (k := 0) (by simp) (.slice o4 (Pl.commonR r t).length k4)
  obtain ⟨RN_c, RN_f, RN_l⟩ := RN
  refine bodyPost_ret (v := .agg #[.slice o4 (Pl.commonR r t).length k4]) (by simp [results, Tryz.results32, go_sem, RN_c]) rfl ⟨o4, k4, rfl, A4.out.setBk R (by simp) (j := 0) rfl (fun _ h => by cases h) _, by go_grown⟩
end Go.Proofs.YtgngehfgcogceaaGreatDoor

end
section
/- Contracts of the reference: the part before a byte; canonical numbers. -/
namespace Go.Proofs.YtgngehfgcogceaaGreatDoor
open Go.RowKit

namespace Pl
theorem mkS_bsl (s : ByteArray) : mkS (bsl s) = s := by simp [mkS, bsl]
end Pl

namespace Pl
end Pl

end Go.Proofs.YtgngehfgcogceaaGreatDoor

end
section
/- Words that all laws use: signatures are digests, boxes behind calls. -/
namespace Go.Proofs.YtgngehfgcogceaaGreatDoor
open Go.RowKit
namespace Pl
end Pl
/-- The first field of a fault that lies in no variable. -/
@[go_sem] theorem Tryz.fld0 (x y : Int) (w : World) : (Instr.field 30 (.agg #[.int .i64 x, .int .i64 y]) 0).run Tryz.prog w = .ok (.int .i64 x) w := by kernel_rfl

end Go.Proofs.YtgngehfgcogceaaGreatDoor

end
section
/- The library's cutting, splitting and reading of numbers, in the words of lists. -/
namespace Go.Proofs.YtgngehfgcogceaaGreatDoor
open Go.RowKit

theorem Cut_at (s : ByteArray) (w : World) (hs : s.size ≤ 1048576) (E : Env w) :
    Calls Tryz.prog 64 #[.string s, .string (⟨#[45]⟩ : ByteArray)] w fun e w' => e = .returned (.tuple #[.string (Pl.mkS (Lib.cut (Pl.bsl s) [45]).1), .string (Pl.mkS (Lib.cut (Pl.bsl s) [45]).2.1), .bool (Lib.cut (Pl.bsl s) [45]).2.2]) ∧ ∃ q, w' = w.drewN q := by
  obtain ⟨m, hm⟩ := E.len
  exact Tryz.strings_Cut s (⟨#[45]⟩ : ByteArray) m w (by omega) hm
theorem split_B (s : ByteArray) (c : UInt8) : Lib.splitB ⟨#[c]⟩ 0 (Lib.countB s ⟨#[c]⟩) s = (Lib.split (Pl.bsl s) [c]).map Pl.mkS := by
  apply Pl.map_bsl_inj
  rw [List.map_map]
  have h := Lib.splitB_data ⟨#[c]⟩ 0 (Lib.countB s ⟨#[c]⟩) s
  have e : (Lib.split (Pl.bsl s) [c]).map (Pl.bsl ∘ Pl.mkS) = Lib.split (Pl.bsl s) [c] := by
    conv => rhs; rw [← List.map_id (Lib.split (Pl.bsl s) [c])]
    exact List.map_congr_left fun l _ => Pl.bsl_mkS l
  rw [e]
  exact h
theorem Split_at (s : ByteArray) (c : UInt8) (w : World) (hs : s.size ≤ 1048576) (E : Env w) :
    Calls Tryz.prog 28 #[.string s, .string ⟨#[c]⟩] w fun e w' => e = .returned (.slice (some ⟨w.heap.size, 0, none⟩) (Lib.split (Pl.bsl s) [c]).length (Lib.split (Pl.bsl s) [c]).length) ∧
      w' = w.alloc (.cells (strVals ((Lib.split (Pl.bsl s) [c]).map Pl.mkS)).toArray 9) := by
  obtain ⟨m, hm⟩ := E.len
  have h := Tryz.strings_Split s ⟨#[c]⟩ m w (by omega) hm (Nat.le_refl _)
  have hl : Lib.countB s ⟨#[c]⟩ + 1 = (Lib.split (Pl.bsl s) [c]).length := by
    have := Lib.splitB_all ⟨#[c]⟩ (Nat.le_refl _) 0 _ s rfl
    rw [split_B, List.length_map] at this
    exact this.symm
  rw [hl, split_B] at h
  exact h
theorem Atoi_any (s : ByteArray) (w : World) (hs : s.size ≤ 1048576) (E : Env w) :
    Calls Tryz.prog 65 #[.string s] w fun e w' => ∃ er, e = .returned (.tuple #[.int .i64 (Pl.atoiV (Pl.bsl s)), er]) ∧ Below w.heap.size w w' := by
  obtain ⟨t1, p1, h1⟩ := E.syn
  obtain ⟨t2, p2, h2⟩ := E.rng
  unfold Pl.atoiV
  rcases h : Lib.atoiAll (Pl.bsl s) with v | _ | _
  · refine (Tryz.strconv_Atoi_ok s (by omega) v h w).mono ?_
    rintro e w' ⟨rfl, hw⟩
    refine ⟨_, rfl, ?_⟩
    rcases hw with rfl | ⟨t, rfl⟩
    · exact Below.refl _ _
    · exact Lib.bytesWorld_below _ _ _
  · refine (Tryz.strconv_Atoi_syntax s (by omega) h _ w h1 (.inr ⟨_, _, rfl⟩)).mono ?_
    rintro e w' ⟨N, rfl, -, -, hb⟩
    exact ⟨_, rfl, hb⟩
  · refine (Tryz.strconv_Atoi_range s (by omega) h _ w h2 (.inr ⟨_, _, rfl⟩)).mono ?_
    rintro e w' ⟨N, rfl, -, -, hb⟩
    exact ⟨_, rfl, hb⟩
end Go.Proofs.YtgngehfgcogceaaGreatDoor

end
section
/- Contract: a version is read, by the program. -/
namespace Go.Proofs.YtgngehfgcogceaaGreatDoor
open Go.RowKit

namespace Pl
def parV (s : ByteArray) : Ver := if 80 < s.size then Ver.zero else (progParse (bsl s)).getD Ver.zero
def parF (s : ByteArray) : Int × Int := if 80 < s.size then (2, -1) else match progParse (bsl s) with | some _ => (0, 0) | none => (1, -1)
theorem par_none {s : ByteArray} (h0 : s.size ≤ 80) (h : progParse (bsl s) = none) : parV s = Ver.zero ∧ parF s = (1, -1) := by
  unfold parV parF; rw [if_neg (by omega), if_neg (by omega), h]; exact ⟨rfl, rfl⟩
theorem par_some {s : ByteArray} {v : Ver} (h0 : s.size ≤ 80) (h : progParse (bsl s) = some v) : parV s = v ∧ parF s = (0, 0) := by
  unfold parV parF; rw [if_neg (by omega), if_neg (by omega), h]; exact ⟨rfl, rfl⟩
theorem prog_none1 {s : List UInt8} (h : (Lib.split (Lib.cut s [45]).1 [46]).length ≠ 3) : progParse s = none := by unfold progParse progTry; rw [if_pos h]
theorem prog_try {s : List UInt8} {a b c : List UInt8} (h : Lib.split (Lib.cut s [45]).1 [46] = [a, b, c]) :
    progParse s = if (vrF ⟨atoiV a, atoiV b, atoiV c, if (Lib.cut s [45]).2.2 = true then (Lib.split (Lib.cut s [45]).2.1 [46]).map mkS else []⟩).1 = 0 ∧ verT ⟨atoiV a, atoiV b, atoiV c, if (Lib.cut s [45]).2.2 = true then (Lib.split (Lib.cut s [45]).2.1 [46]).map mkS else []⟩ = s then some ⟨atoiV a, atoiV b, atoiV c, if (Lib.cut s [45]).2.2 = true then (Lib.split (Lib.cut s [45]).2.1 [46]).map mkS else []⟩ else none := by
  unfold progParse progTry; rw [h]; rfl
theorem cut_len (s : List UInt8) (c : UInt8) : (Lib.cut s [c]).1.length ≤ s.length ∧ (Lib.cut s [c]).2.1.length ≤ s.length := by
  unfold Lib.cut
  split
  · simp only [List.length_take, List.length_drop]; omega
  · simp
theorem splitK_size (c : UInt8) : ∀ (k : Nat) (s : List UInt8), ∀ x ∈ Lib.splitK [c] 0 k s, x.length ≤ s.length
  | 0, s, x, hx => by rw [Lib.splitK, List.mem_singleton] at hx; rw [hx]; exact Nat.le_refl _
  | k + 1, s, x, hx => by
    rw [Lib.splitK] at hx
    split at hx
    · rw [List.mem_singleton.1 hx]; exact Nat.le_refl _
    · rcases List.mem_cons.1 hx with rfl | hx
      · rw [List.length_take]; omega
      · have := splitK_size c k _ x hx
        rw [List.length_drop] at this; omega
theorem split_size (s : List UInt8) (c : UInt8) : ∀ x ∈ Lib.split s [c], x.length ≤ s.length := splitK_size c _ s
theorem splitK_len (c : UInt8) : ∀ (k : Nat) (s : List UInt8), (Lib.splitK [c] 0 k s).length ≤ k + 1
  | 0, s => by rw [Lib.splitK]; simp
  | k + 1, s => by
    rw [Lib.splitK]
    split
    · simp
    · have := splitK_len c k (s.drop ((Lib.index s [c]).toNat + [c].length))
      rw [List.length_cons]; omega
theorem split_len (s : List UInt8) (c : UInt8) : (Lib.split s [c]).length ≤ s.length + 2 := by
  have := splitK_len c (Lib.count s [c]) s
  have h2 := Lib.count_le s [c]
  unfold Lib.split
  omega
end Pl

theorem list3 {α : Type} {l : List α} (h : l.length = 3) : ∃ a b c, l = [a, b, c] := by
  match l, h with
  | [a, b, c], _ => exact ⟨a, b, c, rfl⟩
theorem atoi_at {S : ByteArray} {x : List UInt8} {n : Int} (hS : Pl.mkS x = S) (hn : Pl.atoiV x = n) (hx : x.length ≤ 80) : ∀ W, Env W → Calls Tryz.prog 65 #[.string S] W fun e w' => ∃ er, e = .returned (.tuple #[.int .i64 n, er]) ∧ Below W.heap.size W w' := fun W e => by
  have := Atoi_any S W (by rw [← hS, Pl.mkS_size]; omega) e
  rw [← hS, Pl.bsl_mkS, hn] at this
  rw [← hS]
  exact this
/-- The version's box with the first j numbers. -/
def pcJ (n0 n1 n2 : Int) (P : Value) (j : Nat) : List Value := [.int .i64 (if 0 < j then n0 else 0), .int .i64 (if 1 < j then n1 else 0), .int .i64 (if 2 < j then n2 else 0), P]
def PLoop (w : World) (v1 nl np : Nat) (n0 n1 n2 : Int) (P : Value) (S0 S1 S2 : ByteArray) (Pa : Option Addr) (prel : List ByteArray) (Pc : Nat) (x : Value) (wr : World) : Prop := ∃ j : Nat, j ≤ 3 ∧ x = .int .i64 (j : Int) ∧ Below w.heap.size w wr ∧ np + 1 ≤ wr.heap.size ∧
  Hid (Blk wr w.heap.size [.int .i64 0, .int .i64 0, .int .i64 0, .slice none 0 0] ∧ Box2 wr (w.heap.size + 1) (.int .i64 0) (.int .i64 0) ∧ Box2 wr (w.heap.size + 1 + 1) (.int .i64 1) (.int .i64 (-1)) ∧ Blk wr v1 (pcJ n0 n1 n2 P j) ∧ Blk wr nl [.string S0, .string S1, .string S2] ∧ Blk wr np [.pointer (some ⟨v1, 0, none⟩), .pointer (some ⟨v1, 1, none⟩), .pointer (some ⟨v1, 2, none⟩)] ∧ Sl wr Pa prel.length Pc 1 (strVals prel))
theorem Sl_far {w : World} {oa : Option Addr} {n cap sz : Nat} {cs : List Value} (h : Sl w oa n cap sz cs) {a : Addr} (hne : ∀ b off, oa = some ⟨b, off, none⟩ → b ≠ a.block) (v : Value) : Sl (w.setCell a v) oa n cap sz cs := by
  refine ⟨h.hl, h.hcap, h.hmax, ?_⟩
  rcases h.mem with h0 | ⟨b, off, h1, h2, h3⟩
  · exact .inl h0
  · refine .inr ⟨b, off, h1, by simpa using h2, fun j u hu => ?_⟩
    rw [World.cell?_setCell_other _ _ _ _ (by intro h4; have := congrArg Addr.block h4; exact hne b off h1 (by first | exact this | exact this.symm))]
    exact h3 j u hu
theorem pre_cap {pre : List UInt8} (h : pre.length ≤ 80) : (Lib.split pre [46]).length ≤ maxLen := by
  have := Pl.split_len pre 46
  unfold maxLen; omega
set_option maxHeartbeats 1000000 in
theorem Parse_long (s : ByteArray) (w : World) (hs : s.size ≤ 9223372036854775807) (h : 80 < s.size) :
    Calls Tryz.prog 43 #[.string s] w (RVerF (Pl.parV s) (Pl.parF s) w) := by
  have E1 : Pl.parV s = Pl.Ver.zero := by unfold Pl.parV; rw [if_pos h]
  have E2 : Pl.parF s = (2, -1) := by unfold Pl.parF; rw [if_pos h]
  rw [E1, E2]
  clear E1 E2
  go_enter Tryz.func43, Tryz.ntmps43
  go_wp2_with fail
  go_returns
  exact ⟨none, 0, rfl, VIn.zero _, by go_grown⟩
end Go.Proofs.YtgngehfgcogceaaGreatDoor

end
