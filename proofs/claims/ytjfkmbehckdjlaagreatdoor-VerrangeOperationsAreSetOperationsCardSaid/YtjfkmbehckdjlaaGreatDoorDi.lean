/- Contract: intervals sorted by their lower bounds. -/
import Derived.Test.YtjfkmbehckdjlaaGreatDoorDh
import Derived.Test.YtjfkmbehckdjlaaGreatDoorMSd
import Derived.Lib.QuietBelow
namespace Go.Proofs.YtjfkmbehckdjlaaGreatDoor
open Go.RowKit Go.Sort
open Go.Shelf

theorem isortNone (p : Option Addr) (cap : Nat) (fv : Value) (w : World) :
    Calls Tryz.prog 135 #[.slice p 0 cap, .int .i64 0, .int .i64 0, fv] w fun e w' => e = .returned (.tuple #[]) ∧ w = w' := by
  go_enter Tryz.func135, Tryz.ntmps135
  go_wp2
  refine wp_loop_rounds 1 ?_
  rw [rounds_succ]
  go_wp2
  go_end0
  exact ⟨rfl, rfl⟩
theorem pdqNone (p : Option Addr) (cap : Nat) (lim : Int) (fv : Value) (w : World) :
    Calls Tryz.prog 114 #[.slice p 0 cap, .int .i64 0, .int .i64 0, .int .i64 lim, fv] w fun e w' => e = .returned (.tuple #[]) ∧ w = w' := by
  go_enter Tryz.func114, Tryz.ntmps114
  go_wp2
  refine wp_loop_rounds 1 ?_
  rw [rounds_succ]
  go_wp2_with (go_at_call 135; refine (isortNone _ _ _ _).mono ?_; rintro e w' ⟨rfl, rfl⟩)
  (try simp only [Exit.inBlock, Exit.then]); refine bodyPost_ret (results_none rfl _ _ _) rfl ?_
  exact ⟨rfl, rfl⟩
theorem sortNone (p : Option Addr) (cap : Nat) (fv : Value) (w : World) :
    Calls Tryz.prog 84 #[.slice p 0 cap, fv] w fun e w' => e = .returned (.tuple #[]) ∧ w = w' := by
  have hl : ∀ W, Calls Tryz.prog 115 #[.int .u64 0] W fun e w' => e = .returned (.int .i64 (Lib.bitLen 0 : Nat)) ∧ w' = W := fun W => by
    have h := Any.bits_Len (SlLaysF0.n15.bits (P := Tryz.prog) (ρ := Tryz.sortIv_ren) { Tryz.sortIv with }) 0 W (by omega) (by omega)
    exact h
  go_enter Tryz.func84, Tryz.ntmps84
  go_wp2_with (first | (go_at_call 115; refine (hl _).mono ?_; rintro e w' ⟨rfl, rfl⟩) | (go_at_call 114; refine (pdqNone _ _ _ _ _).mono ?_; rintro e w' ⟨rfl, rfl⟩))
  go_end0
  exact ⟨rfl, rfl⟩

/-- An interval and where its identifiers lie. -/
structure IvA where
  x : Pl.Ivl
  a : Option Addr
  b : Option Addr
  c : Nat
  d : Nat
def IvA.enc (y : IvA) : List Value := ivC y.x y.a y.b y.c y.d
structure IvA.Good (w : World) (blk : Nat) (y : IvA) : Prop where
  ok : y.x.Ok
  lo : VIn w y.x.lo y.a y.c
  hi : VIn w y.x.hi y.b y.d
  ql : SlQ (fun b => some b ≠ some blk) y.a y.x.lo.pre.length
  qh : SlQ (fun b => some b ≠ some blk) y.b y.x.hi.pre.length
abbrev IvG (w : World) (blk : Nat) := {y : IvA // IvA.Good w blk y}
instance (w : World) (blk : Nat) : Inhabited (IvG w blk) := ⟨⟨⟨⟨Pl.Ver.zero, Pl.Ver.zero, true⟩, none, none, 0, 0⟩, ⟨Pl.zero_ok, Pl.zero_ok, fun _ => rfl, fun h => Bool.noConfusion h⟩, VIn.zero w, VIn.zero w, .inl rfl, .inl rfl⟩⟩
def encG {w : World} {blk : Nat} (y : IvG w blk) : List Value := y.1.enc
def cmpG {w : World} {blk : Nat} (x y : IvG w blk) : Int := Pl.verCmp x.1.x.lo y.1.x.lo
theorem sortWorld_grown {α : Type} [Inhabited α] (enc : α → List Value) (k : Nat) (w : World) (blk off m : Nat) (dk : Array α) (os : Array Obj) : w.grownBy (sortWorldK enc k w blk off m dk os) (some blk) := by
  refine ⟨rfl, rfl, rfl, ?_, fun b hb hr => ?_⟩
  · simp [sortWorldK, grow, putRowK, putRow, mapBlock]
  · have hne : b ≠ blk := fun e => hr (by rw [e])
    simp only [sortWorldK, grow, putRowK, putRow, mapBlock]
    rw [Array.getElem?_append_left (by simpa using hb), Array.getElem?_modify, if_neg (fun e => hne e.symm)]
    rfl
theorem grow_form {w w' : World} (h : Below w.heap.size w w') (hd : w.drawn ≤ w'.drawn) : ∃ q os, w' = grow (w.drewN q) os := by
  obtain ⟨⟨d, os⟩, rfl⟩ := regrown_of_below h
  refine ⟨d - w.drawn, os, ?_⟩
  have e : w.drawn + (d - w.drawn) = d := by
    have h2 : w.drawn ≤ d := hd
    omega
  simp only [World.drewN, redrawn, e]
set_option maxHeartbeats 1000000 in
theorem join1_any (x y : Pl.Ivl) (a1 b1 a2 b2 : Option Addr) (c1 d1 c2 d2 : Nat) (w : World) (h1 : VIn w x.lo a1 c1) (h2 : VIn w y.lo a2 c2) (okx : x.Ok) (oky : y.Ok) :
    Calls Tryz.prog 85 #[ivV x a1 b1 c1 d1, ivV y a2 b2 c2 d2] w fun e w' => e = .returned (.int .i64 (Pl.verCmp x.lo y.lo)) ∧ Below w.heap.size w w' ∧ w.drawn ≤ w'.drawn := by
  obtain ⟨k, hk⟩ : ∃ k, Pl.verCmp x.lo y.lo = k := ⟨_, rfl⟩
  have CO := Lib.hid (fun (W : World) (g1 : VIn W x.lo a1 c1) (g2 : VIn W y.lo a2 c2) => OrderD x.lo y.lo a1 a2 c1 c2 W (VOk.of g1 okx.lo) (VOk.of g2 oky.lo))
  rw [hk] at CO ⊢
  have L := Lib.hid h1
  have R := Lib.hid h2
  clear h1 h2 okx oky hk
  go_enter Tryz.func85, Tryz.ntmps85
  have B0 : Below w.heap.size w w := Below.refl _ _
  go_wp2_with fail
  refine (CO.out _ (L.out.below (by go_grown) (Nat.le_refl _)) (R.out.below (by go_grown) (Nat.le_refl _))).mono ?_
  rintro e w1 ⟨rfl, hb, hd⟩
  have B1 : Below w.heap.size w w1 := bcall (by go_grown) hb (by go_size)
  have D1 : w.drawn ≤ w1.drawn := hd
  clear hb hd
  go_wp2_with fail
  go_ret
  exact ⟨rfl, B1, D1⟩
theorem cmpLays {w : World} {blk : Nat} (off size : Nat) : CmpLays Tryz.prog 85 #[] (encG (w := w) (blk := blk)) 9 cmpG blk off size w := fun m os dk _ x y => by
  have hg := sortWorld_grown (encG (w := w) (blk := blk)) 9 w blk off m dk os
  refine (join1_any x.1.x y.1.x x.1.a x.1.b y.1.a y.1.b x.1.c x.1.d y.1.c y.1.d _ (x.2.lo.grown hg x.2.ql) (y.2.lo.grown hg y.2.ql) x.2.ok y.2.ok).mono ?_
  rintro e w' ⟨rfl, hb, hd⟩
  exact ⟨rfl, grow_form hb hd⟩
theorem cmpG_swo {w : World} {blk : Nat} : SWO (ltOf (cmpG (w := w) (blk := blk))) where
  irrefl x := by unfold ltOf cmpG; rw [Pl.vc_self]; rfl
  trans x y z h1 h2 := by
    unfold ltOf cmpG at *
    rw [decide_eq_true_eq] at *
    exact Pl.vc_lt h1 (by omega)
  ntrans x y z h1 h2 := by
    unfold ltOf cmpG at *
    rw [decide_eq_false_iff_not] at *
    exact fun h => (Pl.vc_nlt (Pl.vc_tr (Pl.vc_le h2) (Pl.vc_le h1))) h
/-- The intervals of a row as they lie. -/
theorem ivg_list {w : World} {B B0 : Nat} {r : List Pl.Ivl} {n g c : Nat} (h : ROwn w B B0 r (.slice (some ⟨g, 0, none⟩) n c) n) (ok : ∀ x ∈ r, x.Ok) : ∃ ys : List (IvG w g), ys.map (fun y => y.1.x) = r ∧ ∀ j (hj : j < ys.length), ∀ i u, (encG ys[j])[i]? = some u → w.cell? ⟨g, j * 9 + i, none⟩ = some u := by
  obtain ⟨cs, h1, h2⟩ := h.mem
  have hc : ∀ j u, cs[j]? = some u → w.cell? ⟨g, 0 + j, none⟩ = some u := fun j u hu => by
    have := h1.cells (g := g) rfl j u hu
    rwa [addr_add] at this
  have key := h2.cells (off := 0) hc
  clear h1 h2 hc
  have : ∀ (k : Nat), k ≤ r.length → ∃ ys : List (IvG w g), ys.map (fun y => y.1.x) = r.take k ∧ ∀ j (hj : j < ys.length), ∀ i u, (encG ys[j])[i]? = some u → w.cell? ⟨g, j * 9 + i, none⟩ = some u := by
    intro k
    induction k with
    | zero => intro _; exact ⟨[], by simp, fun j hj => absurd hj (by simp)⟩
    | succ k ih =>
      intro hk
      obtain ⟨ys, e, hy⟩ := ih (by omega)
      obtain ⟨es, ⟨a1, b1, c1, d1, rfl, v1, v2, q1, q2⟩, hes⟩ := key k (by omega)
      have hl : ys.length = k := by have := congrArg List.length e; simp at this; omega
      refine ⟨ys ++ [⟨⟨r[k], a1, b1, c1, d1⟩, ok _ (List.getElem_mem _), v1, v2, q1.mono fun _ h => h.2, q2.mono fun _ h => h.2⟩], ?_, fun j hj i u hu => ?_⟩
      · rw [List.map_append, e, List.take_succ_eq_append_getElem (show k < r.length by omega)]; rfl
      · by_cases hjk : j < ys.length
        · rw [List.getElem_append_left hjk] at hu
          exact hy j hjk i u hu
        · have ej : j = k := by simp at hj; omega
          subst ej
          rw [List.getElem_append_right (by omega)] at hu
          have := hes i u (by simpa [encG, IvA.enc] using hu)
          rwa [Nat.zero_add] at this
  obtain ⟨ys, e, hy⟩ := this r.length (Nat.le_refl _)
  exact ⟨ys, by rw [e, List.take_length], hy⟩
theorem encG_len {w : World} {blk : Nat} (y : IvG w blk) : (encG y).length = 9 := rfl
theorem encG_one {w : World} {blk : Nat} (y : IvG w blk) : ∀ v ∈ encG y, v.oneCell' = true := List.all_eq_true.1 rfl
set_option maxHeartbeats 1000000 in
theorem sortI_any (r : List Pl.Ivl) (oa : Option Addr) (n c B B0 : Nat) (w : World) (h : ROwn w B B0 r (.slice oa n c) n) (ok : ∀ x ∈ r, x.Ok) (hn : n ≤ 2000010) :
    Calls Tryz.prog 84 #[.slice oa n c, .func (.func 85) #[] #[]] w fun e w' => e = .returned (.tuple #[]) ∧ ∃ s, (∀ x, x ∈ s ↔ x ∈ r) ∧ s.length = n ∧ s.Pairwise Pl.LoLe ∧ RIn w' s oa c ∧ Below B w w' := by
  by_cases h0 : n = 0
  · subst h0
    refine (sortNone oa c _ w).mono ?_
    rintro e w' ⟨rfl, rfl⟩
    have hr : r = [] := List.length_eq_zero_iff.1 h.len
    exact ⟨rfl, r, fun x => Iff.rfl, h.len, by rw [hr]; exact List.Pairwise.nil, h.rin, Below.refl _ _⟩
  · obtain ⟨cs0, own, -⟩ := h.mem
    rcases own.2 with ⟨-, e⟩ | ⟨g, cap, cur, hv, hbg, hgg, hcap, hmax, -, -⟩
    · exact absurd e h0
    · injection hv with e1 e2 e3
      subst e1 e3
      have hlt := (Array.getElem?_eq_some_iff.1 hgg).1
      obtain ⟨ys, hys, hcell⟩ := ivg_list h ok
      have hyl : ys.length = n := by have := congrArg List.length hys; rw [List.length_map, h.len] at this; exact this
      have hH : HoldsK (encG (w := w) (blk := g)) 9 w g 0 ys.toArray := fun j hj => by
        have hj' : j < ys.toArray.size * 9 := by simpa using hj
        rw [get_flatK _ _ _ _ hj']
        have hq : j / 9 < ys.length := by simp at hj'; omega
        refine ⟨?_, ?_⟩
        · have e1 : ys.toArray[j / 9]! = ys[j / 9] := by rw [getElem!_pos _ _ (by simpa using hq)]; simp
          have e2 : j % 9 < (encG ys[j / 9]).length := by rw [encG_len]; omega
          have := hcell (j / 9) hq (j % 9) _ (List.getElem?_eq_getElem e2)
          rw [e1, getElem!_pos (encG ys[j / 9]) (j % 9) e2]
          rw [show j / 9 * 9 + j % 9 = 0 + j by omega] at this
          exact this
        · simp only [World.frozen?, hgg]
          simp
      have C := AnyQ.slices_SortFunc Tryz.sortIv 9 Tryz.isAgg58 Tryz.sizeOf58 encG encG_len encG_one cmpG cmpG_swo 85 #[] g 0 c ys.toArray w (enters_of Tryz.func85 (by kernel_rfl) rfl) (cmpLays 0 _) hH hlt (by simp; omega)
      rw [show ys.toArray.size = n by simpa using hyl] at C
      refine C.mono ?_
      rintro e w' ⟨rfl, d', m, os, ⟨hs, -, hperm⟩, hsort, rfl⟩
      have hds : d'.size = n := by rw [hs]; simpa using hyl
      have hg := sortWorld_grown (encG (w := w) (blk := g)) 9 w g 0 m d' os
      have hP : d'.toList.Perm ys := by
        have e1 : d'.extract 0 n = d' := by rw [← hds]; simp
        have e2 : ys.toArray.extract 0 n = ys.toArray := by rw [← hyl]; simp
        rw [e1, e2] at hperm
        simpa using hperm
      have hHK := holdsK_sortWorldK_c (encG (w := w) (blk := g)) 9 w g 0 ys.toArray d' m os hH hlt (by rw [hs])
      refine ⟨rfl, d'.toList.map (fun y => y.1.x), fun x => ?_, by simpa using hds, List.pairwise_iff_getElem.2 fun i j hi hj hij => ?_, ?_, (Below.refl B w).grown hg (by omega) fun k hk => by cases hk; exact hbg⟩
      · rw [← hys, (hP.map _).mem_iff]
      · have hi' : i < d'.size := by simpa using hi
        have hj' : j < d'.size := by simpa using hj
        have := hsort i j (Nat.zero_le _) hij (by omega)
        unfold ltOf cmpG at this
        rw [decide_eq_false_iff_not, getElem!_pos d' j hj', getElem!_pos d' i hi'] at this
        unfold Pl.LoLe
        simp only [List.getElem_map, Array.getElem_toList]
        exact Pl.vc_le this
      · obtain ⟨cs, hE, hc⟩ := Elems.of (P := IvIs (sortWorldK (encG (w := w) (blk := g)) 9 w g 0 m d' os)) (fun _ _ h => h.len) (w := sortWorldK (encG (w := w) (blk := g)) 9 w g 0 m d' os) (b := g) (d'.toList.map (fun y => y.1.x)) 0 fun i hi => by
          have hi' : i < d'.size := by simpa using hi
          refine ⟨encG d'[i], ?_, fun j u hu => ?_⟩
          · simp only [List.getElem_map, Array.getElem_toList]
            exact ⟨_, _, _, _, rfl, d'[i].2.lo.grown hg d'[i].2.ql, d'[i].2.hi.grown hg d'[i].2.qh⟩
          · have hj : j < 9 := by have := (List.getElem?_eq_some_iff.1 hu).1; rwa [encG_len] at this
            have := (hHK (i * 9 + j) (by simp; omega)).1
            rw [get_flatK _ _ _ _ (by omega), show (i * 9 + j) / 9 = i by omega, show (i * 9 + j) % 9 = j by omega, getElem!_pos d' i hi', getElem!_pos (encG d'[i]) j (by rw [encG_len]; exact hj)] at this
            rw [show 0 + i * 9 + j = 0 + (i * 9 + j) by omega, this]
            rw [List.getElem?_eq_getElem (by rw [encG_len]; exact hj)] at hu
            exact hu
        exact ⟨cs, ⟨hE.len, by simpa [hds] using hcap, hmax, .inr ⟨g, 0, rfl, Nat.lt_of_lt_of_le hlt hg.size, hc⟩⟩, hE⟩
end Go.Proofs.YtjfkmbehckdjlaaGreatDoor
