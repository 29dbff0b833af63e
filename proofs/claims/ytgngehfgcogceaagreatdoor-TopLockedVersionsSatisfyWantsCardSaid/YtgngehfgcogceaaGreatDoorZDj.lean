/- Contract: the union of two ranges, by the program. -/
import Derived.Test.YtgngehfgcogceaaGreatDoorZMDi
namespace Go.Proofs.YtgngehfgcogceaaGreatDoor
open Go.RowKit

theorem idx_last {n : Nat} (h0 : 0 < n) (hn : n ≤ 9223372036854775807) : ((n : Int) - 1).toNat = n - 1 ∧ IntKind.i64.wrap ((n : Int) - 1) = (n : Int) - 1 ∧ (0 : Int) ≤ (n : Int) - 1 ∧ (1 : Int) ≤ (n : Int) ∧ (n : Int) - 1 < (n : Int) :=
  ⟨by omega, IntWalk.i64_in _ (by omega), by omega, by omega, by omega⟩
theorem set_at {α : Type} {ps qs : List α} {m j : Nat} {v : α} (h : ps.length = m) : (ps ++ qs).set (m + j) v = ps ++ qs.set j v := by
  subst h
  rw [List.set_append, if_neg (by omega), Nat.add_sub_cancel_left]
theorem Elems.all2 {α : Type} {P : α → List Value → Prop} {sz : Nat} {Q : Value → Prop} (hQ : ∀ x c, P x c → ∀ u ∈ c, Q u) (hsz : 0 < sz) {xs : List α} {cs : List Value} (h : Elems P sz xs cs) : ∀ u ∈ cs, Q u := by
  intro u hu
  obtain ⟨j, hj, rfl⟩ := List.mem_iff_getElem.1 hu
  have h1 : j / sz < xs.length := (Nat.div_lt_iff_lt_mul hsz).2 (by rw [← h.len]; exact hj)
  refine hQ _ _ (h.each (j / sz) h1) _ ?_
  have h2 := Nat.mod_lt j hsz
  have h3 : j / sz * sz + j % sz = j := by rw [Nat.mul_comm]; exact Nat.div_add_mod j sz
  rw [List.mem_iff_getElem?]
  refine ⟨j % sz, ?_⟩
  rw [List.getElem?_take, if_pos h2, List.getElem?_drop, h3, List.getElem?_eq_getElem hj]
/-- Many intervals more, behind an append. -/
theorem ROwn.apps {w w' : World} {B B0 : Nat} {r s : List Pl.Ivl} {v v' : Value} {n m : Nat} {cs C : List Value} (hl : r.length = n) (hm : s.length = m) (h2 : Elems (IvQ w (fun b => B0 ≤ b ∧ some b ≠ v.ownBlock)) 9 r cs)
    (hx : Elems (IvQ w (fun b => B0 ≤ b ∧ some b ≠ v.ownBlock)) 9 s C) (own : w'.ownsRow B 103 9 v' (n + m) (cs ++ C)) (hg : w.grownBy w' v.ownBlock) (hv : v'.ownBlock = v.ownBlock ∨ v'.ownBlock = some w.heap.size) :
    ROwn w' B B0 (r ++ s) v' (n + m) := by
  have key : ∀ y c, IvQ w (fun b => B0 ≤ b ∧ some b ≠ v.ownBlock) y c → IvQ w' (fun b => B0 ≤ b ∧ some b ≠ v'.ownBlock) y c := fun y c h => by
    refine IvQ.grown (h.mono (R := fun b => (B0 ≤ b ∧ some b ≠ v'.ownBlock) ∧ some b ≠ v.ownBlock) fun b hb hlt => ⟨⟨hb.1, ?_⟩, hb.2⟩) hg (fun b hb => hb.2) |>.mono fun b hb _ => hb.1
    rcases hv with e | e
    · rw [e]; exact hb.2
    · rw [e]; intro e2; cases e2; omega
  exact ⟨⟨cs ++ C, own, (h2.mono key).append (hx.mono key)⟩, by simp [hl, hm]⟩
theorem ownsRow_set {w : World} {B g n cap : Nat} {e : TypeId} {xs : List Value} (h : w.ownsRow B e 9 (.slice (some ⟨g, 0, none⟩) n cap) n xs) {j : Nat} (_ : j < xs.length) (v : Value) : (w.setCell ⟨g, j, none⟩ v).ownsRow B e 9 (.slice (some ⟨g, 0, none⟩) n cap) n (xs.set j v) := by
  refine ⟨by rw [List.length_set]; exact h.1, ?_⟩
  rcases h.2 with ⟨h1, -⟩ | ⟨g', cap', cur, h1, hbg, hgg, hnc, hcm, hcs, htk⟩
  · cases h1
  · cases h1
    refine .inr ⟨g, cap, cur.setIfInBounds j v, rfl, hbg, ?_, hnc, hcm, by simpa using hcs, ?_⟩
    · unfold World.setCell
      simp [Array.getElem?_modify, hgg]
    · rw [Array.toList_setIfInBounds, List.take_set, htk]
theorem own_frozen {w : World} {B B0 : Nat} {r : List Pl.Ivl} {g n c : Nat} (h : ROwn w B B0 r (.slice (some ⟨g, 0, none⟩) n c) n) : ∀ o, w.frozen? ⟨g, o, none⟩ = false := fun o => by
  obtain ⟨cs, h1, _⟩ := h.mem
  rcases h1.2 with ⟨h1, -⟩ | ⟨g', cap', cur, h1, hbg, hgg, -⟩
  · cases h1
  · cases h1
    simp only [World.frozen?, hgg]
    simp
/-- The last interval of a row of one's own. -/
theorem ROwn.last {w : World} {B B0 : Nat} {r : List Pl.Ivl} {o : Option Addr} {n c : Nat} (h : ROwn w B B0 r (.slice o n c) n) (h0 : 0 < n) :
    ∃ g q l a2 b2 c2 d2, o = some ⟨g, 0, none⟩ ∧ r = q ++ [l] ∧ IvAt w g ((n - 1) * 9) l a2 b2 c2 d2 ∧ SlQ (fun b => B0 ≤ b ∧ some b ≠ some g) a2 l.lo.pre.length ∧ SlQ (fun b => B0 ≤ b ∧ some b ≠ some g) b2 l.hi.pre.length ∧ B ≤ g ∧ g < w.heap.size := by
  obtain ⟨cs, h1, h2⟩ := h.mem
  have hlen := h.len
  rcases List.eq_nil_or_concat r with rfl | ⟨q, l, e⟩
  · simp at hlen; omega
  · rw [List.concat_eq_append] at e
    subst e
    rcases h1.2 with ⟨-, e⟩ | ⟨g, cap, cur, hv, hbg, hgg, -⟩
    · omega
    · injection hv with e1 e2 e3
      subst e1 e3
      have hc : ∀ j u, cs[j]? = some u → w.cell? ⟨g, 0 + j, none⟩ = some u := fun j u hu => by
        have := h1.cells (g := g) rfl j u hu
        rwa [addr_add] at this
      have hq : q.length = n - 1 := by simp at hlen; omega
      obtain ⟨es, ⟨a1, b1, c1, d1, rfl, g1, g2, g3, g4⟩, g5⟩ := h2.cells hc (n - 1) (by simp; omega)
      have el : (q ++ [l])[n - 1]'(by simp; omega) = l := by rw [List.getElem_append_right (by omega)]; simp [hq]
      rw [el] at g1 g2 g3 g4 g5
      rw [Nat.zero_add] at g5
      exact ⟨g, q, l, a1, b1, c1, d1, rfl, rfl, ⟨g5 0 _ rfl, g5 1 _ rfl, g5 2 _ rfl, g5 3 _ rfl, g5 4 _ rfl, g5 5 _ rfl, g5 6 _ rfl, g5 7 _ rfl, g5 8 _ rfl, g1, g2⟩, g3, g4, hbg, (Array.getElem?_eq_some_iff.1 hgg).1⟩
theorem set_last {q : List Pl.Ivl} {cs : List Value} {l : Pl.Ivl} {P : Pl.Ivl → List Value → Prop} (h : Elems P 9 (q ++ [l]) cs) : cs = cs.take (q.length * 9) ++ (cs.drop (q.length * 9)).take 9 ∧ Elems P 9 q (cs.take (q.length * 9)) ∧ P l ((cs.drop (q.length * 9)).take 9) := by
  have hl := h.len
  simp only [List.length_append, List.length_singleton] at hl
  refine ⟨?_, ⟨by simp; omega, fun i hi => ?_⟩, ?_⟩
  · rw [List.take_of_length_le (l := cs.drop (q.length * 9)) (by simp; omega), List.take_append_drop]
  · have := h.each i (by simp; omega)
    rw [List.getElem_append_left hi] at this
    rw [List.drop_take, List.take_take, Nat.min_eq_left (by omega)]
    exact this
  · have := h.each q.length (by simp)
    rw [List.getElem_append_right (Nat.le_refl _)] at this
    simpa using this
/-- The upper bound of the last interval is stored over. -/
theorem ROwn.setHi {w : World} {B B0 : Nat} {q : List Pl.Ivl} {l : Pl.Ivl} {g n c : Nat} (h : ROwn w B B0 (q ++ [l]) (.slice (some ⟨g, 0, none⟩) n c) n) {hi : Pl.Ver} {p : Option Addr} {d : Nat} (hh : VIn w hi p d) (hq : SlQ (fun b => B0 ≤ b ∧ some b ≠ some g) p hi.pre.length) :
    ROwn ((((w.setCell ⟨g, (n - 1) * 9 + 4, none⟩ (.int .i64 hi.maj)).setCell ⟨g, (n - 1) * 9 + 5, none⟩ (.int .i64 hi.min)).setCell ⟨g, (n - 1) * 9 + 6, none⟩ (.int .i64 hi.pat)).setCell ⟨g, (n - 1) * 9 + 7, none⟩ (.slice p hi.pre.length d)) B B0 (q ++ [⟨l.lo, hi, l.un⟩]) (.slice (some ⟨g, 0, none⟩) n c) n := by
  obtain ⟨cs, h1, h2⟩ := h.mem
  have hlen := h.len
  have hqn : q.length = n - 1 := by simp at hlen; omega
  obtain ⟨e1, e2, a1, b1, c1, d1, e3, v1, v2, q1, q2⟩ := set_last h2
  rw [e3] at e1
  rw [hqn] at e1 e2 e3
  generalize cs.take ((n - 1) * 9) = ps at *
  have hps : ps.length = (n - 1) * 9 := by rw [e2.len, hqn]
  subst e1
  have cell : ∀ k u, (ivC l a1 b1 c1 d1)[k]? = some u → w.cell? ⟨g, (n - 1) * 9 + k, none⟩ = some u := fun k u hu => by
    have := h1.cells (g := g) rfl ((n - 1) * 9 + k) u (by rw [List.getElem?_append_right (by omega), hps, Nat.add_sub_cancel_left]; exact hu)
    rwa [addr_add, Nat.zero_add] at this
  have o1 := ownsRow_set h1 (j := (n - 1) * 9 + 4) (by simp [hps]) (.int .i64 hi.maj)
  have o2 := ownsRow_set o1 (j := (n - 1) * 9 + 5) (by simp [hps]) (.int .i64 hi.min)
  have o3 := ownsRow_set o2 (j := (n - 1) * 9 + 6) (by simp [hps]) (.int .i64 hi.pat)
  have o4 := ownsRow_set o3 (j := (n - 1) * 9 + 7) (by simp [hps]) (.slice p hi.pre.length d)
  have es : ((((ps ++ ivC l a1 b1 c1 d1).set ((n - 1) * 9 + 4) (.int .i64 hi.maj)).set ((n - 1) * 9 + 5) (.int .i64 hi.min)).set ((n - 1) * 9 + 6) (.int .i64 hi.pat)).set ((n - 1) * 9 + 7) (.slice p hi.pre.length d) = ps ++ ivC ⟨l.lo, hi, l.un⟩ a1 p c1 d := by
    rw [set_at hps, set_at hps, set_at hps, set_at hps]; rfl
  rw [es] at o4
  have tr : ∀ v a c, VIn w v a c → VIn ((((w.setCell ⟨g, (n - 1) * 9 + 4, none⟩ (.int .i64 hi.maj)).setCell ⟨g, (n - 1) * 9 + 5, none⟩ (.int .i64 hi.min)).setCell ⟨g, (n - 1) * 9 + 6, none⟩ (.int .i64 hi.pat)).setCell ⟨g, (n - 1) * 9 + 7, none⟩ (.slice p hi.pre.length d)) v a c := fun v a c hv => by
    have k4 := cell 4 _ rfl
    have k5 := cell 5 _ rfl
    have k6 := cell 6 _ rfl
    have k7 := cell 7 _ rfl
    refine (((hv.setNS k4 (fun _ h => by cases h) _).setNS (u := .int .i64 l.hi.min) ?_ (fun _ h => by cases h) _).setNS (u := .int .i64 l.hi.pat) ?_ (fun _ h => by cases h) _).setNS (u := .slice b1 l.hi.pre.length d1) ?_ (fun _ h => by cases h) _
    · rw [World.cell?_setCell_other _ _ _ _ (by simp)]; exact k5
    · rw [World.cell?_setCell_other _ _ _ _ (by simp), World.cell?_setCell_other _ _ _ _ (by simp)]; exact k6
    · rw [World.cell?_setCell_other _ _ _ _ (by simp), World.cell?_setCell_other _ _ _ _ (by simp), World.cell?_setCell_other _ _ _ _ (by simp)]; exact k7
  refine ⟨⟨_, o4, (e2.mono fun x cc hx => ?_).append (Elems.one ⟨a1, p, c1, d, rfl, tr _ _ _ v1, tr _ _ _ hh, q1, hq⟩ rfl)⟩, by simpa using hlen⟩
  obtain ⟨a3, b3, c3, d3, e, w1, w2, w3, w4⟩ := hx
  exact ⟨a3, b3, c3, d3, e, tr _ _ _ w1, tr _ _ _ w2, w3, w4⟩
/-- The mark of the last interval is stored over. -/
theorem ROwn.setUn {w : World} {B B0 : Nat} {q : List Pl.Ivl} {l : Pl.Ivl} {g n c : Nat} (h : ROwn w B B0 (q ++ [l]) (.slice (some ⟨g, 0, none⟩) n c) n) (u : Bool) :
    ROwn (w.setCell ⟨g, (n - 1) * 9 + 8, none⟩ (.bool u)) B B0 (q ++ [⟨l.lo, l.hi, u⟩]) (.slice (some ⟨g, 0, none⟩) n c) n := by
  obtain ⟨cs, h1, h2⟩ := h.mem
  have hlen := h.len
  have hqn : q.length = n - 1 := by simp at hlen; omega
  obtain ⟨e1, e2, a1, b1, c1, d1, e3, v1, v2, q1, q2⟩ := set_last h2
  rw [e3] at e1
  rw [hqn] at e1 e2 e3
  generalize cs.take ((n - 1) * 9) = ps at *
  have hps : ps.length = (n - 1) * 9 := by rw [e2.len, hqn]
  subst e1
  have k8 : w.cell? ⟨g, (n - 1) * 9 + 8, none⟩ = some (.bool l.un) := by
    have := h1.cells (g := g) rfl ((n - 1) * 9 + 8) (.bool l.un) (by rw [List.getElem?_append_right (by omega), hps, Nat.add_sub_cancel_left]; rfl)
    rwa [addr_add, Nat.zero_add] at this
  have o1 := ownsRow_set h1 (j := (n - 1) * 9 + 8) (by simp [hps]) (.bool u)
  have es : (ps ++ ivC l a1 b1 c1 d1).set ((n - 1) * 9 + 8) (.bool u) = ps ++ ivC ⟨l.lo, l.hi, u⟩ a1 b1 c1 d1 := by
    rw [set_at hps]; rfl
  rw [es] at o1
  refine ⟨⟨_, o1, (e2.mono fun x cc hx => hx.setNS k8 (fun _ h => by cases h) _).append (Elems.one ⟨a1, b1, c1, d1, rfl, v1.setNS k8 (fun _ h => by cases h) _, v2.setNS k8 (fun _ h => by cases h) _, q1, q2⟩ rfl)⟩, by simpa using hlen⟩
namespace Pl
theorem fold_can {s : List Ivl} (hx : ∀ x ∈ s, x.Ok) (hp : s.Pairwise LoLe) (k : Nat) : Can ((s.take k).foldl addL []) :=
  (foldJ0 (fun x h => hx x (List.mem_of_mem_take h)) (List.Pairwise.sublist (List.take_sublist k s) hp)).1
theorem fold_succ {s : List Ivl} {k : Nat} (hk : k < s.length) : (s.take (k + 1)).foldl addL [] = addL ((s.take k).foldl addL []) s[k] := by
  rw [List.take_succ_eq_append_getElem hk, List.foldl_append]; rfl
end Pl
/-- Where a union stands after k rounds. -/
def JoinInv (w5 : World) (s : List Pl.Ivl) (k : Nat) (wr : World) : Prop := ∃ o n c' out, Bk wr w5.heap.size [.slice o n c'] ∧ ROwn wr (w5.heap.size + 1) 0 out (.slice o n c') n ∧ Below w5.heap.size w5 wr ∧ (s.take k).foldl Pl.addL [] = out ∧ n ≤ k ∧ w5.heap.size + 1 ≤ wr.heap.size

set_option maxRecDepth 100000 in
set_option maxHeartbeats 16000000 in
theorem join_any (r t : List Pl.Ivl) (a b : Option Addr) (c d : Nat) (w : World) (h1 : RIn w r a c) (h2 : RIn w t b d) (can1 : Pl.Can r) (can2 : Pl.Can t) (hn1 : r.length ≤ 500000) (hn2 : t.length ≤ 500000) :
    Calls Tryz.prog 33 #[.agg #[.slice a r.length c], .agg #[.slice b t.length d]] w (RRng (Pl.unionR r t) w) := by
  have H := Lib.hid h1
  have K := Lib.hid h2
  have C1 := Lib.hid can1
  have C2 := Lib.hid can2
  have fld := field_rng
  clear h1 h2 can1 can2
  go_enter Tryz.func33, Tryz.ntmps33
  have B0 : Below w.heap.size w w := Below.refl _ _
  go_wp2_with fail
  refine wp_region_ord [0, 3, 1, 2, 4, 5, 6, 7] (by kernel_rfl) (by kernel_rfl) ?_
  have B1 : Below w.heap.size w (((w.alloc (.cells #[.slice a r.length c] 44)).alloc (.cells #[.slice b t.length d] 44)).alloc (.cells #[.slice none 0 0] 44)).drew := by go_grown
  have q1 : w.heap.size + 3 ≤ (((w.alloc (.cells #[.slice a r.length c] 44)).alloc (.cells #[.slice b t.length d] 44)).alloc (.cells #[.slice none 0 0] 44)).drew.heap.size := by simp only [World.size_alloc, World.size_drew]; omega
  replace H := Lib.hid ((((H.out.below (Below.refl _ _ |>.alloc (Nat.le_refl _) (.cells #[.slice a r.length c] 44)) (Nat.le_refl _)).below (Below.refl _ _ |>.alloc (Nat.le_refl _) (.cells #[.slice b t.length d] 44)) (Nat.le_refl _)).below (Below.refl _ _ |>.alloc (Nat.le_refl _) (.cells #[.slice none 0 0] 44)) (Nat.le_refl _)).below (Below.refl _ _).drew (Nat.le_refl _))
  replace K := Lib.hid ((((K.out.below (Below.refl _ _ |>.alloc (Nat.le_refl _) (.cells #[.slice a r.length c] 44)) (Nat.le_refl _)).below (Below.refl _ _ |>.alloc (Nat.le_refl _) (.cells #[.slice b t.length d] 44)) (Nat.le_refl _)).below (Below.refl _ _ |>.alloc (Nat.le_refl _) (.cells #[.slice none 0 0] 44)) (Nat.le_refl _)).below (Below.refl _ _).drew (Nat.le_refl _))
  have X := (((Bk.new (r := w.heap.size) (cs := [.slice a r.length c]) w 44 (by simp)).alloc (.cells #[.slice b t.length d] 44)).alloc (.cells #[.slice none 0 0] 44)).drew
  have Y := ((Bk.new (r := w.heap.size + 1) (cs := [.slice b t.length d]) (w.alloc (.cells #[.slice a r.length c] 44)) 44 (by simp)).alloc (.cells #[.slice none 0 0] 44)).drew
  have R := (Bk.new (r := w.heap.size + 1 + 1) (cs := [.slice none 0 0]) ((w.alloc (.cells #[.slice a r.length c] 44)).alloc (.cells #[.slice b t.length d] 44)) 44 (by simp)).drew
  generalize (((w.alloc (.cells #[.slice a r.length c] 44)).alloc (.cells #[.slice b t.length d] 44)).alloc (.cells #[.slice none 0 0] 44)).drew = w1 at *
  have s1 : w.heap.size ≤ w1.heap.size := B1.size
  obtain ⟨X_c, X_f, X_l⟩ := id X
  obtain ⟨Y_c, Y_f, Y_l⟩ := id Y
  obtain ⟨R_c, R_f, R_l⟩ := id R
  repeat (refine wpI_rd rfl rfl ?_; go_big_quiet_step (fail); refine wpQuiet_nil ?_)
  try simp only [Act.put, List.setIfInBounds_toArray, List.set_cons_zero, List.set_cons_succ]
  refine wpI_call (f := 51) (args := #[.agg #[.slice a r.length c]]) rfl rfl rfl (by simp [go_sem]) ?_
  refine (rngCopy_any r a c _ H.out C1.out.ok (by omega)).mono ?_
  rintro e w2 ⟨o1, n1, k1, rfl, OA, hb⟩
  have hl1 := OA.len
  subst hl1
  refine ⟨_, rfl, hb, ?_⟩
  skip
  have B2 : Below w.heap.size w w2 := bcall (by go_grown) hb (by go_size)
  have q2 : w1.heap.size + 0 ≤ w2.heap.size := by have z := hb.size; (try simp only [World.size_alloc, World.size_setCell, World.size_drew] at z); omega
  replace H := Lib.hid (H.out.below hb (Nat.le_refl _))
  replace K := Lib.hid (K.out.below hb (Nat.le_refl _))
  replace X := (X).below hb (by go_size)
  replace Y := (Y).below hb (by go_size)
  replace R := (R).below hb (by go_size)
  clear hb
  have s2 : w.heap.size ≤ w2.heap.size := B2.size
  clear X_c X_f X_l Y_c Y_f Y_l R_c R_f R_l
  obtain ⟨X_c, X_f, X_l⟩ := id X
  obtain ⟨Y_c, Y_f, Y_l⟩ := id Y
  obtain ⟨R_c, R_f, R_l⟩ := id R
  try simp only [Act.put, List.setIfInBounds_toArray, List.set_cons_zero, List.set_cons_succ]
  repeat (refine wpI_rd rfl rfl ?_; go_big_quiet_step (fail); refine wpQuiet_nil ?_)
  try simp only [Act.put, List.setIfInBounds_toArray, List.set_cons_zero, List.set_cons_succ]
  refine wpI_call (f := 51) (args := #[.agg #[.slice b t.length d]]) rfl rfl rfl (by simp [go_sem]) ?_
  refine (rngCopy_any t b d _ K.out C2.out.ok (by omega)).mono ?_
  rintro e w3 ⟨o2, n2, k2, rfl, OB, hb⟩
  have hl2 := OB.len
  subst hl2
  have hlt2 := own_lt OA
  replace OA := OA.below hb (Nat.le_refl _)
  refine ⟨_, rfl, hb, ?_⟩
  skip
  have B3 : Below w.heap.size w w3 := bcall (by go_grown) hb (by go_size)
  have q3 : w2.heap.size + 0 ≤ w3.heap.size := by have z := hb.size; (try simp only [World.size_alloc, World.size_setCell, World.size_drew] at z); omega
  replace H := Lib.hid (H.out.below hb (Nat.le_refl _))
  replace K := Lib.hid (K.out.below hb (Nat.le_refl _))
  replace X := (X).below hb (by go_size)
  replace Y := (Y).below hb (by go_size)
  replace R := (R).below hb (by go_size)
  clear hb
  have s3 : w.heap.size ≤ w3.heap.size := B3.size
  clear X_c X_f X_l Y_c Y_f Y_l R_c R_f R_l
  obtain ⟨X_c, X_f, X_l⟩ := id X
  obtain ⟨Y_c, Y_f, Y_l⟩ := id Y
  obtain ⟨R_c, R_f, R_l⟩ := id R
  try simp only [Act.put, List.setIfInBounds_toArray, List.set_cons_zero, List.set_cons_succ]
  repeat (refine wpI_rd rfl rfl ?_; go_big_quiet_step (fail); refine wpQuiet_nil ?_)
  try simp only [Act.put, List.setIfInBounds_toArray, List.set_cons_zero, List.set_cons_succ]
  obtain ⟨csa, own0, el0⟩ := OA.mem
  obtain ⟨csb, ownb, elb⟩ := OB.mem
  refine wpI_apx rfl rfl rfl Tryz.tIvl rfl own0 (m := t.length) (news := csb) (Src.ofSl Tryz.tIvl.ht (Sl.own ownb) (by decide) (elb.all2 (fun _ _ h => h.is.one) (by decide))) (by omega) (by omega) ?_
  intro v5 w5 own5 hg5 hv5
  have NEW := ROwn.apps OA.len OB.len el0 (elb.mono fun x cc hx => hx.mono (R := fun bb => w1.heap.size ≤ bb ∧ some bb ≠ (Value.slice o1 r.length k1).ownBlock) fun bb hb _ => ⟨by omega, fun e => by have := hlt2 bb e.symm; omega⟩) own5 hg5 hv5
  have hb5 := grown_below hg5 own0 (by omega)
  have B5 : Below w.heap.size w w5 := bcall B3 hb5 (by omega)
  replace R := R.below hb5 (by omega)
  clear own5 hg5 hv5 own0 el0 ownb elb OA OB hlt2 X Y H K X_c X_f X_l Y_c Y_f Y_l R_c R_f R_l
  obtain ⟨o5, c5, rfl⟩ := NEW.slice
  try simp only [Act.put, List.setIfInBounds_toArray, List.set_cons_zero, List.set_cons_succ]
  repeat (refine wpI_rd rfl rfl ?_; go_big_quiet_step (fail); refine wpQuiet_nil ?_)
  refine wpI_nil ?_
  try simp only [Act.put, List.setIfInBounds_toArray, List.set_cons_zero, List.set_cons_succ]
  go_wp2_with fail
  have OKA : ∀ x ∈ r ++ t, x.Ok := fun x hx => (List.mem_append.1 hx).elim (C1.out.ok x) (C2.out.ok x)
  refine (sortI_any (r ++ t) o5 (r.length + t.length) c5 _ _ w5 NEW OKA (by omega)).mono ?_
  rintro e w6 ⟨rfl, s, hm, hsl, hsp, RS, hb6⟩
  have HM := Lib.hid hm
  have HSP := Lib.hid hsp
  have HRS := Lib.hid RS
  have OKS := Lib.hid (fun x hx => OKA x ((hm x).1 hx))
  have B6 : Below w.heap.size w w6 := bcall B5 hb6 (by omega)
  replace R := R.below hb6 (by omega)
  have q6 : w.heap.size + 3 ≤ w6.heap.size := by have := hb5.size; have := hb6.size; omega
  clear hm hsp RS hb6 hb5 NEW OKA
  have hs6 : s.length ≤ 1000000 := by omega
  rw [show r.length + t.length = s.length from hsl.symm]
  clear hsl
  go_wp2_with fail
  go_loopw [22] (fun i wr => ∃ k : Nat, k ≤ s.length ∧ i = .int .i64 k ∧ JoinInv w6 s k wr) (fun i _ => s.length - (intOf i).toNat)
  case atStart => exact ⟨0, Nat.zero_le _, rfl, none, 0, 0, [], Bk.new (cs := [.slice none 0 0]) _ _ rfl, ROwn.nil _ _ _, by go_grown, rfl, Nat.le_refl _, by simp⟩
  case round =>
    obtain ⟨k, hk, rfl, hinv⟩ := hrel
    obtain ⟨o, n, c', out, O, OW, BW, EQ, hnk, q7⟩ := hinv
    have CAN := Lib.hid (Pl.fold_can OKS.out HSP.out k)
    rw [EQ] at CAN
    replace EQ := Lib.hid EQ
    have B1 : Below w.heap.size w wr := bcall B6 BW (by omega)
    by_cases hlt2 : k < s.length
    · obtain ⟨bb, off, rfl, hltb, hat⟩ := HRS.out.at (by omega)
      obtain ⟨a1, b1, c1, d1, I⟩ := hat k hlt2
      have QA := Lib.hid (I.lo.at)
      have QB := Lib.hid (I.hi.at)
      replace I := I.below BW hltb (Nat.le_refl _)
      have OX := Lib.hid (OKS.out _ (List.getElem_mem hlt2))
      have ST := Lib.hid (Pl.fold_succ hlt2)
      rw [EQ.out] at ST
      clear hat
      obtain ⟨e0, e1, e2, e3, e4, e5, e6, e7, e8, VA, VB⟩ := I
      replace VA := Lib.hid VA
      replace VB := Lib.hid VB
      generalize s[k] = x at *
      by_cases n0 : n = 0
      · have t1 : ((n : Int) == 0) = true := beqT (by omega)
        have hout : out = [] := List.length_eq_zero_iff.1 (OW.len.trans n0)
        have E := Lib.hid (show (s.take (k + 1)).foldl Pl.addL [] = out ++ [x] by rw [ST.out, hout]; rfl)
        have OWY := OW.alloc (.cells #[.int .i64 x.lo.maj, .int .i64 x.lo.min, .int .i64 x.lo.pat, .slice a1 x.lo.pre.length c1, .int .i64 x.hi.maj, .int .i64 x.hi.min, .int .i64 x.hi.pat, .slice b1 x.hi.pre.length d1, .bool x.un] 103)
        have QY : IvQ (wr.alloc (.cells #[.int .i64 x.lo.maj, .int .i64 x.lo.min, .int .i64 x.lo.pat, .slice a1 x.lo.pre.length c1, .int .i64 x.hi.maj, .int .i64 x.hi.min, .int .i64 x.hi.pat, .slice b1 x.hi.pre.length d1, .bool x.un] 103)) (fun b => 0 ≤ b ∧ some b ≠ (Value.slice o n c').ownBlock) x [.int .i64 x.lo.maj, .int .i64 x.lo.min, .int .i64 x.lo.pat, .slice a1 x.lo.pre.length c1, .int .i64 x.hi.maj, .int .i64 x.hi.min, .int .i64 x.hi.pat, .slice b1 x.hi.pre.length d1, .bool x.un] := IvQ.below (w := wr) ⟨a1, b1, c1, d1, rfl, VA.out, VB.out, SlQ.off OW rfl (Nat.le_succ _) QA.out, SlQ.off OW rfl (Nat.le_succ _) QB.out⟩ ((Below.refl wr.heap.size wr).alloc (Nat.le_refl _) _) (Nat.le_refl _)
        have q8 : w6.heap.size + 1 ≤ (wr.alloc (.cells #[.int .i64 x.lo.maj, .int .i64 x.lo.min, .int .i64 x.lo.pat, .slice a1 x.lo.pre.length c1, .int .i64 x.hi.maj, .int .i64 x.hi.min, .int .i64 x.hi.pat, .slice b1 x.hi.pre.length d1, .bool x.un] 103)).heap.size := by rw [World.size_alloc]; omega
        obtain ⟨O_c, O_f, O_l⟩ := id O
        clear ST hout n0 VA VB
        go_wp2_with (at_builtin; go_loud (refine ap1r (by rfl) (by rfl) (by rfl) OWY (c := 1) (C := [.int .i64 x.lo.maj, .int .i64 x.lo.min, .int .i64 x.lo.pat, .slice a1 x.lo.pre.length c1, .int .i64 x.hi.maj, .int .i64 x.hi.min, .int .i64 x.hi.pat, .slice b1 x.hi.pre.length d1, .bool x.un]) (by rw [World.size_alloc]; rfl) QY (by omega) q8 ?_); intro v7 w7 NEW hg7 hb7 hs7; replace O := (O.alloc (.cells #[.int .i64 x.lo.maj, .int .i64 x.lo.min, .int .i64 x.lo.pat, .slice a1 x.lo.pre.length c1, .int .i64 x.hi.maj, .int .i64 x.hi.min, .int .i64 x.hi.pat, .slice b1 x.hi.pre.length d1, .bool x.un] 103)).below hb7 (by omega); replace BW : Below w6.heap.size w6 w7 := bcall (BW.alloc (by omega) (.cells #[.int .i64 x.lo.maj, .int .i64 x.lo.min, .int .i64 x.lo.pat, .slice a1 x.lo.pre.length c1, .int .i64 x.hi.maj, .int .i64 x.hi.min, .int .i64 x.hi.pat, .slice b1 x.hi.pre.length d1, .bool x.un] 103)) hb7 (by omega); obtain ⟨o7, c7, rfl⟩ := NEW.slice; clear hg7 hb7 OW OWY QY O_c O_f O_l; obtain ⟨O_c, O_f, O_l⟩ := id O)
        go_roundw
        case rel => exact ⟨k + 1, hlt2, by go_num, o7, n + 1, c7, _, O.set (k := 0) (by simp) _, NEW.far (by simp) (O.c 0) (fun _ h => by cases h) _, by go_grown, E.out, by omega, by have := O.lt; simp; omega⟩
        case measure => simp [intOf]; omega
      · have t1 : ((n : Int) == 0) = false := beqF (by omega)
        obtain ⟨g, q, l, a2, b2, c2, d2, rfl, hout, HL, -, -, hBg, hglt⟩ := OW.last (by omega)
        obtain ⟨i1, i2, i3, i4, i5⟩ := idx_last (n := n) (by omega) (by omega)
        have OKL := Lib.hid (CAN.out.ok l (by rw [hout]; simp))
        have FZ := own_frozen OW
        subst hout
        obtain ⟨l0, l1, l2, l3, l4, l5, l6, l7, l8, LA, LB⟩ := HL
        obtain ⟨O_c, O_f, O_l⟩ := id O
        cases hlu : l.un with
        | true =>
          rw [hlu] at l8
          have E := Lib.hid (show (s.take (k + 1)).foldl Pl.addL [] = q ++ [l] by rw [ST.out, Pl.addL_snoc, if_pos hlu])
          clear ST hlu
          go_wp2_with fail
          go_roundw
          case rel => exact ⟨k + 1, hlt2, by go_num, _, n, c', _, O.alloc _, OW.alloc _, by go_grown, E.out, by omega, by simp; omega⟩
          case measure => simp [intOf]; omega
        | false =>
          rw [hlu] at l8
          have HL := Lib.hid (IvAt.mk l0 l1 l2 l3 l4 l5 l6 l7 (by rw [hlu]; exact l8) LA LB)
          have CO := Lib.hid (fun (W : World) (g1 : VIn W l.hi b2 d2) (g2 : VIn W x.lo a1 c1) => Order_any l.hi x.lo b2 a1 d2 c1 W (VOk.of g1 OKL.out.hi) (VOk.of g2 OX.out.lo))
          have CP := Lib.hid (fun (W : World) (g1 : VIn W l.hi b2 d2) (g2 : VIn W x.hi b1 d1) => Order_any l.hi x.hi b2 b1 d2 d1 W (VOk.of g1 OKL.out.hi) (VOk.of g2 OX.out.hi))
          have ADD := Lib.hid (ST.out.trans (Pl.addL_snoc q l x))
          rw [if_neg (show ¬ l.un = true by rw [hlu]; decide)] at ADD
          obtain ⟨K1, hK1⟩ : ∃ K, Pl.verCmp l.hi x.lo = K := ⟨_, rfl⟩
          obtain ⟨K2, hK2⟩ : ∃ K, Pl.verCmp l.hi x.hi = K := ⟨_, rfl⟩
          rw [hK1] at CO ADD
          rw [hK2] at CP ADD
          have HLU := Lib.hid hlu
          clear ST hlu hK1 hK2 LA LB
          go_wp2_with fail
          clear l0 l1 l2 l3 l4 l5 l6 l7 l8 e0 e1 e2 e3 e4 e5 e6 e7
          refine wp_region_ord [0, 4, 5, 1, 2, 3, 6, 7, 8] (by kernel_rfl) (by kernel_rfl) ?_
          have B7 : Below w.heap.size w (wr.alloc (.cells #[.int .i64 x.lo.maj, .int .i64 x.lo.min, .int .i64 x.lo.pat, .slice a1 x.lo.pre.length c1, .int .i64 x.hi.maj, .int .i64 x.hi.min, .int .i64 x.hi.pat, .slice b1 x.hi.pre.length d1, .bool x.un] 103)).drew := by go_grown
          have q7 : wr.heap.size + 1 ≤ (wr.alloc (.cells #[.int .i64 x.lo.maj, .int .i64 x.lo.min, .int .i64 x.lo.pat, .slice a1 x.lo.pre.length c1, .int .i64 x.hi.maj, .int .i64 x.hi.min, .int .i64 x.hi.pat, .slice b1 x.hi.pre.length d1, .bool x.un] 103)).drew.heap.size := by simp only [World.size_alloc, World.size_drew]; omega
          replace VA := Lib.hid ((VA.out.below (Below.refl _ _ |>.alloc (Nat.le_refl _) (.cells #[.int .i64 x.lo.maj, .int .i64 x.lo.min, .int .i64 x.lo.pat, .slice a1 x.lo.pre.length c1, .int .i64 x.hi.maj, .int .i64 x.hi.min, .int .i64 x.hi.pat, .slice b1 x.hi.pre.length d1, .bool x.un] 103)) (Nat.le_refl _)).below (Below.refl _ _).drew (Nat.le_refl _))
          replace VB := Lib.hid ((VB.out.below (Below.refl _ _ |>.alloc (Nat.le_refl _) (.cells #[.int .i64 x.lo.maj, .int .i64 x.lo.min, .int .i64 x.lo.pat, .slice a1 x.lo.pre.length c1, .int .i64 x.hi.maj, .int .i64 x.hi.min, .int .i64 x.hi.pat, .slice b1 x.hi.pre.length d1, .bool x.un] 103)) (Nat.le_refl _)).below (Below.refl _ _).drew (Nat.le_refl _))
          replace O := (O.alloc (.cells #[.int .i64 x.lo.maj, .int .i64 x.lo.min, .int .i64 x.lo.pat, .slice a1 x.lo.pre.length c1, .int .i64 x.hi.maj, .int .i64 x.hi.min, .int .i64 x.hi.pat, .slice b1 x.hi.pre.length d1, .bool x.un] 103)).drew
          have Y := (Bk.new (r := wr.heap.size) (cs := [.int .i64 x.lo.maj, .int .i64 x.lo.min, .int .i64 x.lo.pat, .slice a1 x.lo.pre.length c1, .int .i64 x.hi.maj, .int .i64 x.hi.min, .int .i64 x.hi.pat, .slice b1 x.hi.pre.length d1, .bool x.un]) wr 103 (by simp)).drew
          replace OW := OW.below (D := wr.heap.size) (w' := (wr.alloc (.cells #[.int .i64 x.lo.maj, .int .i64 x.lo.min, .int .i64 x.lo.pat, .slice a1 x.lo.pre.length c1, .int .i64 x.hi.maj, .int .i64 x.hi.min, .int .i64 x.hi.pat, .slice b1 x.hi.pre.length d1, .bool x.un] 103)).drew) (by go_grown) (Nat.le_refl _)
          replace HL := Lib.hid (HL.out.below (B := wr.heap.size) (w' := (wr.alloc (.cells #[.int .i64 x.lo.maj, .int .i64 x.lo.min, .int .i64 x.lo.pat, .slice a1 x.lo.pre.length c1, .int .i64 x.hi.maj, .int .i64 x.hi.min, .int .i64 x.hi.pat, .slice b1 x.hi.pre.length d1, .bool x.un] 103)).drew) (by go_grown) hglt (Nat.le_refl _))
          replace BW := (show Below w6.heap.size w6 (wr.alloc (.cells #[.int .i64 x.lo.maj, .int .i64 x.lo.min, .int .i64 x.lo.pat, .slice a1 x.lo.pre.length c1, .int .i64 x.hi.maj, .int .i64 x.hi.min, .int .i64 x.hi.pat, .slice b1 x.hi.pre.length d1, .bool x.un] 103)).drew from by go_grown)
          clear O_c O_f O_l
          generalize (wr.alloc (.cells #[.int .i64 x.lo.maj, .int .i64 x.lo.min, .int .i64 x.lo.pat, .slice a1 x.lo.pre.length c1, .int .i64 x.hi.maj, .int .i64 x.hi.min, .int .i64 x.hi.pat, .slice b1 x.hi.pre.length d1, .bool x.un] 103)).drew = w7 at *
          have s7 : w.heap.size ≤ w7.heap.size := B7.size
          obtain ⟨O_c, O_f, O_l⟩ := id O
          obtain ⟨Y_c, Y_f, Y_l⟩ := id Y
          replace FZ := own_frozen OW
          replace hglt : g < w7.heap.size := by omega
          obtain ⟨l0, l1, l2, l3, l4, l5, l6, l7, l8, LA, LB⟩ := HL.out
          replace LB := Lib.hid LB
          repeat (refine wpI_rd rfl rfl ?_; go_big_quiet_step (fail); refine wpQuiet_nil ?_)
          try simp only [Act.put, List.setIfInBounds_toArray, List.set_cons_zero, List.set_cons_succ]
          refine wpI_add rfl rfl rfl (u := .pointer (some ⟨g, (n - 1) * 9, none⟩)) (w' := w7) (by simp [go_sem]) (Ext.refl _) ?_
          try simp only [Act.put, List.setIfInBounds_toArray, List.set_cons_zero, List.set_cons_succ]
          repeat (refine wpI_rd rfl rfl ?_; go_big_quiet_step (fail); refine wpQuiet_nil ?_)
          try simp only [Act.put, List.setIfInBounds_toArray, List.set_cons_zero, List.set_cons_succ]
          refine wpI_call (f := 46) rfl rfl rfl (by simp [go_sem]; rfl) ?_
          refine (CO.out _ LB.out VA.out).mono ?_
          rintro e w8 ⟨rfl, hb⟩
          replace OW := OW.below hb (Nat.le_refl _)
          replace HL := Lib.hid (HL.out.below hb hglt (Nat.le_refl _))
          replace BW : Below w6.heap.size w6 w8 := bcall BW hb (by omega)
          refine ⟨_, rfl, hb, ?_⟩
          skip
          have B8 : Below w.heap.size w w8 := bcall (by go_grown) hb (by go_size)
          have q8 : w7.heap.size + 0 ≤ w8.heap.size := by have z := hb.size; (try simp only [World.size_alloc, World.size_setCell, World.size_drew] at z); omega
          replace VA := Lib.hid (VA.out.below hb (Nat.le_refl _))
          replace VB := Lib.hid (VB.out.below hb (Nat.le_refl _))
          replace O := (O).below hb (by go_size)
          replace Y := (Y).below hb (by go_size)
          clear hb
          have s8 : w.heap.size ≤ w8.heap.size := B8.size
          clear O_c O_f O_l Y_c Y_f Y_l
          obtain ⟨O_c, O_f, O_l⟩ := id O
          obtain ⟨Y_c, Y_f, Y_l⟩ := id Y
          try simp only [Act.put, List.setIfInBounds_toArray, List.set_cons_zero, List.set_cons_succ]
          clear l0 l1 l2 l3 l4 l5 l6 l7 l8 LA LB
          replace FZ := own_frozen OW
          replace hglt : g < w8.heap.size := by omega
          obtain ⟨l0, l1, l2, l3, l4, l5, l6, l7, l8, LA, LB⟩ := HL.out
          rw [HLU.out] at l8
          by_cases k1 : K1 < 0
          · have t2 := decT k1
            rw [if_pos k1] at ADD
            clear k1 LA LB l0 l1 l2 l3 l4 l5 l6 l7 l8
            have QY : IvQ w8 (fun b => 0 ≤ b ∧ some b ≠ (Value.slice (some ⟨g, 0, none⟩) n c').ownBlock) x [.int .i64 x.lo.maj, .int .i64 x.lo.min, .int .i64 x.lo.pat, .slice a1 x.lo.pre.length c1, .int .i64 x.hi.maj, .int .i64 x.hi.min, .int .i64 x.hi.pat, .slice b1 x.hi.pre.length d1, .bool x.un] := ⟨a1, b1, c1, d1, rfl, VA.out, VB.out, SlQ.off OW rfl (Nat.le_succ _) QA.out, SlQ.off OW rfl (Nat.le_succ _) QB.out⟩
            repeat (refine wpI_rd rfl rfl ?_; go_big_quiet_step (fail); refine wpQuiet_nil ?_)
            try simp only [Act.put, List.setIfInBounds_toArray, List.set_cons_zero, List.set_cons_succ]
            refine wpI_nil ?_
            try simp only [Act.put, List.setIfInBounds_toArray, List.set_cons_zero, List.set_cons_succ]
            go_wp2_with (at_builtin; go_loud (refine ap1r (by rfl) (by rfl) (by rfl) OW (c := 1) (C := [.int .i64 x.lo.maj, .int .i64 x.lo.min, .int .i64 x.lo.pat, .slice a1 x.lo.pre.length c1, .int .i64 x.hi.maj, .int .i64 x.hi.min, .int .i64 x.hi.pat, .slice b1 x.hi.pre.length d1, .bool x.un]) (by rfl) QY (by omega) (by omega) ?_); intro v9 w9 NEW hg9 hb9 hs9; replace O := O.below hb9 (by omega); replace BW : Below w6.heap.size w6 w9 := bcall BW hb9 (by omega); obtain ⟨o9, c9, rfl⟩ := NEW.slice; clear hg9 hb9 OW QY FZ O_c O_f O_l Y_c Y_f Y_l; obtain ⟨O_c, O_f, O_l⟩ := id O)
            go_roundw
            case rel => exact ⟨k + 1, hlt2, by go_num, o9, n + 1, c9, _, O.set (k := 0) (by simp) _, NEW.far (by simp) (O.c 0) (fun _ h => by cases h) _, by go_grown, ADD.out, by omega, by have := O.lt; simp; omega⟩
            case measure => simp [intOf]; omega
          · have t2 := decF k1
            rw [if_neg k1] at ADD
            clear k1 LA LB
            repeat (refine wpI_rd rfl rfl ?_; go_big_quiet_step (fail); refine wpQuiet_nil ?_)
            try simp only [Act.put, List.setIfInBounds_toArray, List.set_cons_zero, List.set_cons_succ]
            refine wpI_nil ?_
            try simp only [Act.put, List.setIfInBounds_toArray, List.set_cons_zero, List.set_cons_succ]
            cases hxu : x.un with
            | true =>
              rw [if_pos (.inl hxu), OX.out.un hxu, hxu] at ADD
              rw [hxu] at Y Y_c
              have m5 : w8.cell? ⟨g, (n - 1) * 9 + 4 + 1, none⟩ = _ := l5
              have m6 : w8.cell? ⟨g, (n - 1) * 9 + 4 + 2, none⟩ = _ := l6
              have m7 : w8.cell? ⟨g, (n - 1) * 9 + 4 + 3, none⟩ = _ := l7
              clear hxu
              go_wp2_with fail
              go_roundw
              case rel => exact ⟨k + 1, hlt2, by go_num, _, n, c', _, ((((O.far (a := ⟨g, (n - 1) * 9 + 4, none⟩) (by dsimp only; omega) (.int .i64 0)).far (a := ⟨g, (n - 1) * 9 + 5, none⟩) (by dsimp only; omega) (.int .i64 0)).far (a := ⟨g, (n - 1) * 9 + 6, none⟩) (by dsimp only; omega) (.int .i64 0)).far (a := ⟨g, (n - 1) * 9 + 7, none⟩) (by dsimp only; omega) (.slice none 0 0)).far (a := ⟨g, (n - 1) * 9 + 8, none⟩) (by dsimp only; omega) (.bool true), (OW.setHi (VIn.zero _) (.inl rfl)).setUn true, by go_grown, ADD.out, by omega, by simp; omega⟩
              case measure => simp [intOf]; omega
            | false =>
              rw [hxu] at Y Y_c
              go_wp2_with fail
              clear l0 l1 l2 l3 l4 l5 l6 l7 l8 t2
              refine wp_region_ord [0, 4, 5, 1, 2, 3, 6, 7, 8] (by kernel_rfl) (by kernel_rfl) ?_
              have B9 : Below w.heap.size w w8.drew := by go_grown
              have q9 : w8.heap.size + 0 ≤ w8.drew.heap.size := by simp only [World.size_drew]; omega
              replace VA := Lib.hid (VA.out.below (Below.refl _ _).drew (Nat.le_refl _))
              replace VB := Lib.hid (VB.out.below (Below.refl _ _).drew (Nat.le_refl _))
              replace O := O.drew
              replace Y := Y.drew
              replace OW := OW.below (D := w8.heap.size) (w' := w8.drew) (by go_grown) (Nat.le_refl _)
              replace HL := Lib.hid (HL.out.below (B := w8.heap.size) (w' := w8.drew) (by go_grown) hglt (Nat.le_refl _))
              replace BW := (show Below w6.heap.size w6 w8.drew from by go_grown)
              clear O_c O_f O_l Y_c Y_f Y_l
              generalize w8.drew = w9 at *
              have s9 : w.heap.size ≤ w9.heap.size := B9.size
              obtain ⟨O_c, O_f, O_l⟩ := id O
              obtain ⟨Y_c, Y_f, Y_l⟩ := id Y
              replace FZ := own_frozen OW
              replace hglt : g < w9.heap.size := by omega
              obtain ⟨l0, l1, l2, l3, l4, l5, l6, l7, l8, LA, LB⟩ := HL.out
              replace LB := Lib.hid LB
              repeat (refine wpI_rd rfl rfl ?_; go_big_quiet_step (fail); refine wpQuiet_nil ?_)
              try simp only [Act.put, List.setIfInBounds_toArray, List.set_cons_zero, List.set_cons_succ]
              refine wpI_add rfl rfl rfl (u := .pointer (some ⟨g, (n - 1) * 9, none⟩)) (w' := w9) (by simp [go_sem]) (Ext.refl _) ?_
              try simp only [Act.put, List.setIfInBounds_toArray, List.set_cons_zero, List.set_cons_succ]
              repeat (refine wpI_rd rfl rfl ?_; go_big_quiet_step (fail); refine wpQuiet_nil ?_)
              try simp only [Act.put, List.setIfInBounds_toArray, List.set_cons_zero, List.set_cons_succ]
              refine wpI_call (f := 46) rfl rfl rfl (by simp [go_sem]; rfl) ?_
              refine (CP.out _ LB.out VB.out).mono ?_
              rintro e w10 ⟨rfl, hb⟩
              replace OW := OW.below hb (Nat.le_refl _)
              replace HL := Lib.hid (HL.out.below hb hglt (Nat.le_refl _))
              replace BW : Below w6.heap.size w6 w10 := bcall BW hb (by omega)
              refine ⟨_, rfl, hb, ?_⟩
              skip
              have B10 : Below w.heap.size w w10 := bcall (by go_grown) hb (by go_size)
              have q10 : w9.heap.size + 0 ≤ w10.heap.size := by have z := hb.size; (try simp only [World.size_alloc, World.size_setCell, World.size_drew] at z); omega
              replace VA := Lib.hid (VA.out.below hb (Nat.le_refl _))
              replace VB := Lib.hid (VB.out.below hb (Nat.le_refl _))
              replace O := (O).below hb (by go_size)
              replace Y := (Y).below hb (by go_size)
              clear hb
              have s10 : w.heap.size ≤ w10.heap.size := B10.size
              clear O_c O_f O_l Y_c Y_f Y_l
              obtain ⟨O_c, O_f, O_l⟩ := id O
              obtain ⟨Y_c, Y_f, Y_l⟩ := id Y
              try simp only [Act.put, List.setIfInBounds_toArray, List.set_cons_zero, List.set_cons_succ]
              clear l0 l1 l2 l3 l4 l5 l6 l7 l8 LA LB
              replace FZ := own_frozen OW
              replace hglt : g < w10.heap.size := by omega
              obtain ⟨l0, l1, l2, l3, l4, l5, l6, l7, l8, LA, LB⟩ := HL.out
              rw [HLU.out] at l8
              by_cases k2 : K2 < 0
              · have t2 := decT k2
                rw [if_pos (.inr k2), hxu] at ADD
                have m5 : w10.cell? ⟨g, (n - 1) * 9 + 4 + 1, none⟩ = _ := l5
                have m6 : w10.cell? ⟨g, (n - 1) * 9 + 4 + 2, none⟩ = _ := l6
                have m7 : w10.cell? ⟨g, (n - 1) * 9 + 4 + 3, none⟩ = _ := l7
                have OWS := OW.setHi VB.out (SlQ.off OW rfl (Nat.le_succ _) QB.out)
                rw [HLU.out] at OWS
                clear k2 LA LB
                repeat (refine wpI_rd rfl rfl ?_; go_big_quiet_step (fail); refine wpQuiet_nil ?_)
                try simp only [Act.put, List.setIfInBounds_toArray, List.set_cons_zero, List.set_cons_succ]
                refine wpI_nil ?_
                try simp only [Act.put, List.setIfInBounds_toArray, List.set_cons_zero, List.set_cons_succ]
                go_wp2_with fail
                go_roundw
                case rel => exact ⟨k + 1, hlt2, by go_num, _, n, c', _, (((O.far (a := ⟨g, (n - 1) * 9 + 4, none⟩) (by dsimp only; omega) (.int .i64 x.hi.maj)).far (a := ⟨g, (n - 1) * 9 + 5, none⟩) (by dsimp only; omega) (.int .i64 x.hi.min)).far (a := ⟨g, (n - 1) * 9 + 6, none⟩) (by dsimp only; omega) (.int .i64 x.hi.pat)).far (a := ⟨g, (n - 1) * 9 + 7, none⟩) (by dsimp only; omega) (.slice b1 x.hi.pre.length d1), OWS, by go_grown, ADD.out, by omega, by simp; omega⟩
                case measure => simp [intOf]; omega
              · have t2 := decF k2
                rw [if_neg (fun h => h.elim (fun e => by rw [hxu] at e; cases e) k2)] at ADD
                clear k2 LA LB hxu
                repeat (refine wpI_rd rfl rfl ?_; go_big_quiet_step (fail); refine wpQuiet_nil ?_)
                try simp only [Act.put, List.setIfInBounds_toArray, List.set_cons_zero, List.set_cons_succ]
                refine wpI_nil ?_
                try simp only [Act.put, List.setIfInBounds_toArray, List.set_cons_zero, List.set_cons_succ]
                go_wp2_with fail
                go_roundw
                case rel => exact ⟨k + 1, hlt2, by go_num, _, n, c', _, O, OW, by go_grown, ADD.out, by omega, by omega⟩
                case measure => simp [intOf]; omega
    · have t2 : decide ((k : Int) < (s.length : Int)) = false := by simp; omega
      have t3 : decide (k < s.length) = false := by simp; omega
      have hfin : out = Pl.unionR r t := by
        rw [← EQ.out, List.take_of_length_le (by omega)]
        exact Pl.join_is C1.out C2.out (fun x => (HM.out x).trans List.mem_append) HSP.out
      replace R := R.below BW (by omega)
      obtain ⟨O_c, O_f, O_l⟩ := id O
      obtain ⟨R_c, R_f, R_l⟩ := id R
      have hfl := OW.len
      rw [hfin] at hfl OW
      clear EQ CAN hfin
      go_wp2_with fail
      have RN := R.set (k := 0) (by simp) (.slice o n c')
      obtain ⟨RN_c, RN_f, RN_l⟩ := RN
      refine bodyPost_ret (v := .agg #[.slice o n c']) (by simp [results, Tryz.results33, go_sem, RN_c]) rfl ⟨o, c', by rw [hfl], (OW.far (by simp; omega) (R.c 0) (fun _ h => by cases h) _).rin, by go_grown⟩
end Go.Proofs.YtgngehfgcogceaaGreatDoor
