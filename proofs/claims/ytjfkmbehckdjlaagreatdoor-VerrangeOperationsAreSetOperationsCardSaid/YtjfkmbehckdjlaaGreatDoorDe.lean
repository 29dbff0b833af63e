/- Contracts: what is in a range, by the program; two ranges checked; a range that must not be too large. -/
import Derived.Test.YtjfkmbehckdjlaaGreatDoorDd
namespace Go.Proofs.YtjfkmbehckdjlaaGreatDoor
open Go.RowKit
theorem Bk.vin {w : World} {r : Nat} {cs : List Value} (h : Bk w r cs) : r < w.heap.size := h.lt
theorem decT {p : Prop} [Decidable p] (h : p) : decide p = true := decide_eq_true h
theorem decF {p : Prop} [Decidable p] (h : ¬ p) : decide p = false := decide_eq_false h
set_option maxHeartbeats 1000000 in
theorem has1_a (x : Pl.Ivl) (v : Pl.Ver) (a b p : Option Addr) (c d q vb : Nat) (w : World) (h1 : VIn w x.lo a c) (h2 : VIn w x.hi b d) (h3 : VIn w v p q) (hv : Bk w vb [.int .i64 v.maj, .int .i64 v.min, .int .i64 v.pat, .slice p v.pre.length q]) (okx : x.Ok) (okv : v.Ok) (k : Int) (e1 : Pl.verCmp x.lo v = k) (hk : ¬ k ≤ 0) :
    Calls Tryz.prog 82 #[ivV x a b c d, .pointer (some ⟨vb, 0, none⟩)] w fun e w' => e = .returned (.bool (Pl.inI x v)) ∧ Below w.heap.size w w' := by
  have CL := Lib.hid (fun (W : World) (g1 : VIn W x.lo a c) (g2 : VIn W v p q) => Order_any x.lo v a p c q W (VOk.of g1 okx.lo) (VOk.of g2 okv))
  rw [e1] at CL
  have E : Hid (false = Pl.inI x v) := Lib.hid (Eq.symm (by unfold Pl.inI; rw [e1, decF hk]; rfl))
  have t1 : decide (k ≤ 0) = false := decF hk
  have L := Lib.hid h1
  have R := Lib.hid h2
  have V := Lib.hid h3
  clear h1 h2 h3 okx okv e1 hk
  go_enter Tryz.func82, Tryz.ntmps82
  have B0 : Below w.heap.size w w := Below.refl _ _
  obtain ⟨hv_c, hv_f, hv_l⟩ := id hv
  go_wp2_with fail
  refine (CL.out _ (L.out.below (by go_grown) (Nat.le_refl _)) (V.out.below (by go_grown) (Nat.le_refl _))).mono ?_
  rintro e w1 ⟨rfl, hb⟩
  have B1 : Below w.heap.size w w1 := bcall (by go_grown) hb (by go_size)
  have q1 : w.heap.size + 1 ≤ w1.heap.size := by have z := hb.size; (try simp only [World.size_alloc] at z); omega
  replace L := Lib.hid ((L.out.below (Below.refl _ _ |>.alloc (Nat.le_refl _) _) (Nat.le_refl _)).below hb (Nat.le_refl _))
  replace R := Lib.hid ((R.out.below (Below.refl _ _ |>.alloc (Nat.le_refl _) _) (Nat.le_refl _)).below hb (Nat.le_refl _))
  replace V := Lib.hid ((V.out.below (Below.refl _ _ |>.alloc (Nat.le_refl _) _) (Nat.le_refl _)).below hb (Nat.le_refl _))
  replace hv := ((hv.alloc _)).below hb (by go_size)
  have X := ((Bk.new (r := w.heap.size) (cs := [.int .i64 x.lo.maj, .int .i64 x.lo.min, .int .i64 x.lo.pat, .slice a x.lo.pre.length c, .int .i64 x.hi.maj, .int .i64 x.hi.min, .int .i64 x.hi.pat, .slice b x.hi.pre.length d, .bool x.un]) _ 58 (by simp))).below hb (by go_size)
  clear hb
  have s1 : w.heap.size ≤ w1.heap.size := B1.size
  clear hv_c hv_f hv_l
  obtain ⟨hv_c, hv_f, hv_l⟩ := id hv
  obtain ⟨X_c, X_f, X_l⟩ := id X
  go_wp2_with fail
  go_ret
  exact ⟨ret_bool E.out, by go_grown⟩
set_option maxHeartbeats 1000000 in
theorem has1_b (x : Pl.Ivl) (v : Pl.Ver) (a b p : Option Addr) (c d q vb : Nat) (w : World) (h1 : VIn w x.lo a c) (h2 : VIn w x.hi b d) (h3 : VIn w v p q) (hv : Bk w vb [.int .i64 v.maj, .int .i64 v.min, .int .i64 v.pat, .slice p v.pre.length q]) (okx : x.Ok) (okv : v.Ok) (k : Int) (e1 : Pl.verCmp x.lo v = k) (hk : k ≤ 0) (hu : x.un = true) :
    Calls Tryz.prog 82 #[ivV x a b c d, .pointer (some ⟨vb, 0, none⟩)] w fun e w' => e = .returned (.bool (Pl.inI x v)) ∧ Below w.heap.size w w' := by
  have CL := Lib.hid (fun (W : World) (g1 : VIn W x.lo a c) (g2 : VIn W v p q) => Order_any x.lo v a p c q W (VOk.of g1 okx.lo) (VOk.of g2 okv))
  rw [e1] at CL
  have E : Hid (true = Pl.inI x v) := Lib.hid (Eq.symm (by unfold Pl.inI; rw [e1, decT hk, hu]; rfl))
  have t1 : decide (k ≤ 0) = true := decT hk
  unfold ivV
  rw [hu]
  have L := Lib.hid h1
  have R := Lib.hid h2
  have V := Lib.hid h3
  clear h1 h2 h3 okx okv e1 hk hu
  go_enter Tryz.func82, Tryz.ntmps82
  have B0 : Below w.heap.size w w := Below.refl _ _
  obtain ⟨hv_c, hv_f, hv_l⟩ := id hv
  go_wp2_with fail
  refine (CL.out _ (L.out.below (by go_grown) (Nat.le_refl _)) (V.out.below (by go_grown) (Nat.le_refl _))).mono ?_
  rintro e w1 ⟨rfl, hb⟩
  have B1 : Below w.heap.size w w1 := bcall (by go_grown) hb (by go_size)
  have q1 : w.heap.size + 1 ≤ w1.heap.size := by have z := hb.size; (try simp only [World.size_alloc] at z); omega
  replace L := Lib.hid ((L.out.below (Below.refl _ _ |>.alloc (Nat.le_refl _) _) (Nat.le_refl _)).below hb (Nat.le_refl _))
  replace R := Lib.hid ((R.out.below (Below.refl _ _ |>.alloc (Nat.le_refl _) _) (Nat.le_refl _)).below hb (Nat.le_refl _))
  replace V := Lib.hid ((V.out.below (Below.refl _ _ |>.alloc (Nat.le_refl _) _) (Nat.le_refl _)).below hb (Nat.le_refl _))
  replace hv := ((hv.alloc _)).below hb (by go_size)
  have X := ((Bk.new (r := w.heap.size) (cs := [.int .i64 x.lo.maj, .int .i64 x.lo.min, .int .i64 x.lo.pat, .slice a x.lo.pre.length c, .int .i64 x.hi.maj, .int .i64 x.hi.min, .int .i64 x.hi.pat, .slice b x.hi.pre.length d, .bool true]) _ 58 (by simp))).below hb (by go_size)
  clear hb
  have s1 : w.heap.size ≤ w1.heap.size := B1.size
  clear hv_c hv_f hv_l
  obtain ⟨hv_c, hv_f, hv_l⟩ := id hv
  obtain ⟨X_c, X_f, X_l⟩ := id X
  go_wp2_with fail
  go_ret
  exact ⟨ret_bool E.out, by go_grown⟩
set_option maxHeartbeats 1000000 in
theorem has1_c (x : Pl.Ivl) (v : Pl.Ver) (a b p : Option Addr) (c d q vb : Nat) (w : World) (h1 : VIn w x.lo a c) (h2 : VIn w x.hi b d) (h3 : VIn w v p q) (hv : Bk w vb [.int .i64 v.maj, .int .i64 v.min, .int .i64 v.pat, .slice p v.pre.length q]) (okx : x.Ok) (okv : v.Ok) (k l : Int) (e1 : Pl.verCmp x.lo v = k) (hk : k ≤ 0) (hu : x.un = false) (e2 : Pl.verCmp v x.hi = l) :
    Calls Tryz.prog 82 #[ivV x a b c d, .pointer (some ⟨vb, 0, none⟩)] w fun e w' => e = .returned (.bool (Pl.inI x v)) ∧ Below w.heap.size w w' := by
  have CL := Lib.hid (fun (W : World) (g1 : VIn W x.lo a c) (g2 : VIn W v p q) => Order_any x.lo v a p c q W (VOk.of g1 okx.lo) (VOk.of g2 okv))
  rw [e1] at CL
  have CH := Lib.hid (fun (W : World) (g1 : VIn W v p q) (g2 : VIn W x.hi b d) => Order_any v x.hi p b q d W (VOk.of g1 okv) (VOk.of g2 okx.hi))
  rw [e2] at CH
  have E : Hid (decide (l < 0) = Pl.inI x v) := Lib.hid (Eq.symm (by unfold Pl.inI; rw [e1, decT hk, hu, e2]; rfl))
  have t1 : decide (k ≤ 0) = true := decT hk
  unfold ivV
  rw [hu]
  have L := Lib.hid h1
  have R := Lib.hid h2
  have V := Lib.hid h3
  clear h1 h2 h3 okx okv e1 hk hu e2
  go_enter Tryz.func82, Tryz.ntmps82
  have B0 : Below w.heap.size w w := Below.refl _ _
  obtain ⟨hv_c, hv_f, hv_l⟩ := id hv
  go_wp2_with fail
  refine (CL.out _ (L.out.below (by go_grown) (Nat.le_refl _)) (V.out.below (by go_grown) (Nat.le_refl _))).mono ?_
  rintro e w1 ⟨rfl, hb⟩
  have B1 : Below w.heap.size w w1 := bcall (by go_grown) hb (by go_size)
  have q1 : w.heap.size + 1 ≤ w1.heap.size := by have z := hb.size; (try simp only [World.size_alloc] at z); omega
  replace L := Lib.hid ((L.out.below (Below.refl _ _ |>.alloc (Nat.le_refl _) _) (Nat.le_refl _)).below hb (Nat.le_refl _))
  replace R := Lib.hid ((R.out.below (Below.refl _ _ |>.alloc (Nat.le_refl _) _) (Nat.le_refl _)).below hb (Nat.le_refl _))
  replace V := Lib.hid ((V.out.below (Below.refl _ _ |>.alloc (Nat.le_refl _) _) (Nat.le_refl _)).below hb (Nat.le_refl _))
  replace hv := ((hv.alloc _)).below hb (by go_size)
  have X := ((Bk.new (r := w.heap.size) (cs := [.int .i64 x.lo.maj, .int .i64 x.lo.min, .int .i64 x.lo.pat, .slice a x.lo.pre.length c, .int .i64 x.hi.maj, .int .i64 x.hi.min, .int .i64 x.hi.pat, .slice b x.hi.pre.length d, .bool false]) _ 58 (by simp))).below hb (by go_size)
  clear hb
  have s1 : w.heap.size ≤ w1.heap.size := B1.size
  clear hv_c hv_f hv_l
  obtain ⟨hv_c, hv_f, hv_l⟩ := id hv
  obtain ⟨X_c, X_f, X_l⟩ := id X
  go_wp2_with fail
  refine (CH.out _ (V.out.below (by go_grown) (Nat.le_refl _)) (R.out.below (by go_grown) (Nat.le_refl _))).mono ?_
  rintro e w2 ⟨rfl, hb⟩
  have B2 : Below w.heap.size w w2 := bcall (by go_grown) hb (by go_size)
  have q2 : w1.heap.size + 0 ≤ w2.heap.size := by have z := hb.size; (try simp only [World.size_alloc, World.size_setCell, World.size_drew] at z); omega
  replace L := Lib.hid (L.out.below hb (Nat.le_refl _))
  replace R := Lib.hid (R.out.below hb (Nat.le_refl _))
  replace V := Lib.hid (V.out.below hb (Nat.le_refl _))
  replace hv := (hv).below hb (by go_size)
  replace X := (X).below hb (by go_size)
  clear hb
  have s2 : w.heap.size ≤ w2.heap.size := B2.size
  clear hv_c hv_f hv_l X_c X_f X_l
  obtain ⟨hv_c, hv_f, hv_l⟩ := id hv
  obtain ⟨X_c, X_f, X_l⟩ := id X
  by_cases hl : l < 0
  · have t2 := decT hl
    replace E := Lib.hid ((decT hl).symm.trans E.out)
    clear hl
    go_wp2_with fail
    go_ret
    exact ⟨ret_bool E.out, by go_grown⟩
  · have t2 := decF hl
    replace E := Lib.hid ((decF hl).symm.trans E.out)
    clear hl
    go_wp2_with fail
    go_ret
    exact ⟨ret_bool E.out, by go_grown⟩
theorem has1_any (x : Pl.Ivl) (v : Pl.Ver) (a b p : Option Addr) (c d q vb : Nat) (w : World) (h1 : VIn w x.lo a c) (h2 : VIn w x.hi b d) (h3 : VIn w v p q) (hv : Bk w vb [.int .i64 v.maj, .int .i64 v.min, .int .i64 v.pat, .slice p v.pre.length q]) (okx : x.Ok) (okv : v.Ok) :
    Calls Tryz.prog 82 #[ivV x a b c d, .pointer (some ⟨vb, 0, none⟩)] w fun e w' => e = .returned (.bool (Pl.inI x v)) ∧ Below w.heap.size w w' := by
  by_cases hk : Pl.verCmp x.lo v ≤ 0
  · cases hu : x.un with
    | true => exact has1_b x v a b p c d q vb w h1 h2 h3 hv okx okv _ rfl hk hu
    | false => exact has1_c x v a b p c d q vb w h1 h2 h3 hv okx okv _ _ rfl hk hu rfl
  · exact has1_a x v a b p c d q vb w h1 h2 h3 hv okx okv _ rfl hk
/-- No interval ahead of a place contains the version. -/
def Pl.NoTo (r : List Pl.Ivl) (v : Pl.Ver) (k : Nat) : Prop := ∀ j (h : j < r.length), j < k → Pl.inI r[j] v = false
theorem Pl.NoTo.succ {r : List Pl.Ivl} {v : Pl.Ver} {k : Nat} (h : Pl.NoTo r v k) {hk : k < r.length} (e : Pl.inI r[k] v = false) : Pl.NoTo r v (k + 1) := fun j hj h1 => by
  by_cases hjk : j = k
  · subst hjk; exact e
  · exact h j hj (by omega)
theorem Pl.NoTo.none {r : List Pl.Ivl} {v : Pl.Ver} {k : Nat} (h : Pl.NoTo r v k) (hk : r.length ≤ k) : Pl.hasB r v = false := Pl.hasB_no fun x hx => by
  obtain ⟨j, hj, rfl⟩ := List.mem_iff_getElem.1 hx
  exact h j hj (by omega)
theorem Pl.has_at {r : List Pl.Ivl} {v : Pl.Ver} {k : Nat} (hk : k < r.length) (e : Pl.inI r[k] v = true) : Pl.hasB r v = true := Pl.hasB_iff.2 ⟨_, List.getElem_mem hk, e⟩
def IdxRes (b : Bool) (w : World) (e : Ending) (w' : World) : Prop := ∃ n : Int, e = .returned (.int .i64 n) ∧ decide (0 ≤ n) = b ∧ Below w.heap.size w w'
set_option maxHeartbeats 1000000 in
theorem idxHas_any (r : List Pl.Ivl) (v : Pl.Ver) (a p : Option Addr) (c q vb : Nat) (w : World) (h : RIn w r a c) (h3 : VIn w v p q) (hv : Bk w vb [.int .i64 v.maj, .int .i64 v.min, .int .i64 v.pat, .slice p v.pre.length q]) (okr : ∀ x ∈ r, x.Ok) (okv : v.Ok) :
    Calls Tryz.prog 113 #[.slice a r.length c, .func (.func 82) #[] #[.pointer (some ⟨vb, 0, none⟩)]] w (IdxRes (Pl.hasB r v) w) := by
  have hm := h.len
  have H := Lib.hid h
  have V := Lib.hid h3
  have HV := Lib.hid hv
  have OK := Lib.hid okr
  have OV := Lib.hid okv
  obtain ⟨b, hb⟩ : ∃ b, Pl.hasB r v = b := ⟨_, rfl⟩
  rw [hb]
  have HB := Lib.hid hb
  clear h h3 hv okr okv hb
  go_enter Tryz.func113, Tryz.ntmps113
  go_wp2_with fail
  go_loopw [8] (fun i wr => ∃ k : Nat, k ≤ r.length ∧ i = .int .i64 k ∧ Hid (Pl.NoTo r v k) ∧ Below w.heap.size w wr) (fun i _ => r.length - (intOf i).toNat)
  case atStart => exact ⟨0, Nat.zero_le _, rfl, Lib.hid (fun _ _ h => absurd h (by omega)), Below.refl _ _⟩
  case round =>
    obtain ⟨k, hk, rfl, hu, hbw⟩ := hrel
    by_cases hlt2 : k < r.length
    · obtain ⟨b0, off, rfl, hlt, hat⟩ := (H.out.below hbw (Nat.le_refl _)).at (by omega)
      obtain ⟨a1, b1, c1, d1, I⟩ := hat k hlt2
      have OX := Lib.hid (OK.out _ (List.getElem_mem hlt2))
      have HT := Lib.hid (Pl.has_at (v := v) hlt2)
      have HN := Lib.hid (fun e => hu.out.succ (hk := hlt2) e)
      clear hat OK
      obtain ⟨e0, e1, e2, e3, e4, e5, e6, e7, e8, VL, VH⟩ := I
      have CX := Lib.hid (has1_any r[k] v a1 b1 p c1 d1 q vb wr VL VH (V.out.below hbw (Nat.le_refl _)) (HV.out.below hbw HV.out.lt) OX.out OV.out)
      obtain ⟨g, hg⟩ : ∃ g, Pl.inI r[k] v = g := ⟨_, rfl⟩
      rw [hg] at CX HT HN
      clear VL VH OX hg
      generalize r[k] = x at *
      go_wp2_with fail
      refine CX.out.mono ?_
      rintro e w1 ⟨rfl, hb⟩
      have B1 : Below w.heap.size w w1 := bcall hbw hb hbw.size
      clear hb e0 e1 e2 e3 e4 e5 e6 e7 e8 CX
      cases g with
      | true =>
        have E := Lib.hid (HB.out.symm.trans (HT.out rfl))
        go_wp2_with fail
        go_ret
        exact ⟨_, rfl, by rw [E.out]; simp, B1⟩
      | false =>
        have E := Lib.hid (HN.out rfl)
        clear HN HT
        go_wp2_with fail
        go_roundw
        case rel => exact ⟨k + 1, hlt2, by go_num, E, B1⟩
        case measure => simp [intOf]; omega
    · have E := Lib.hid (HB.out.symm.trans (hu.out.none (by omega)))
      go_wp2_with fail
      go_ret
      exact ⟨-1, rfl, by rw [E.out]; decide, hbw⟩
theorem conHas_any (r : List Pl.Ivl) (v : Pl.Ver) (a p : Option Addr) (c q vb : Nat) (w : World) (h : RIn w r a c) (h3 : VIn w v p q) (hv : Bk w vb [.int .i64 v.maj, .int .i64 v.min, .int .i64 v.pat, .slice p v.pre.length q]) (okr : ∀ x ∈ r, x.Ok) (okv : v.Ok) :
    Calls Tryz.prog 81 #[.slice a r.length c, .func (.func 82) #[] #[.pointer (some ⟨vb, 0, none⟩)]] w fun e w' => e = .returned (.bool (Pl.hasB r v)) ∧ Below w.heap.size w w' := by
  have C := Lib.hid (idxHas_any r v a p c q vb w h h3 hv okr okv)
  obtain ⟨b, hb⟩ : ∃ b, Pl.hasB r v = b := ⟨_, rfl⟩
  rw [hb] at C ⊢
  clear h h3 hv okr okv hb
  go_enter Tryz.func81, Tryz.ntmps81
  go_wp2_with fail
  refine C.out.mono ?_
  rintro e w1 ⟨n, rfl, hn, hb⟩
  have E := Lib.hid hn
  clear hn
  go_wp2_with fail
  go_ret
  exact ⟨ret_bool E.out, hb⟩
set_option maxHeartbeats 1000000 in
theorem rngHas_any (r : List Pl.Ivl) (v : Pl.Ver) (a p : Option Addr) (c q : Nat) (w : World) (h : RIn w r a c) (h3 : VIn w v p q) (okr : ∀ x ∈ r, x.Ok) (okv : v.Ok) :
    Calls Tryz.prog 48 #[.agg #[.slice a r.length c], verV v p q] w fun e w' => e = .returned (.bool (Pl.hasB r v)) ∧ Below w.heap.size w w' := by
  have H := Lib.hid h
  have V := Lib.hid h3
  have hm := h.len
  have C := Lib.hid (fun (W : World) (vb : Nat) (g1 : RIn W r a c) (g2 : VIn W v p q) (g3 : Bk W vb [.int .i64 v.maj, .int .i64 v.min, .int .i64 v.pat, .slice p v.pre.length q]) => conHas_any r v a p c q vb W g1 g2 g3 okr okv)
  obtain ⟨b, hb⟩ : ∃ b, Pl.hasB r v = b := ⟨_, rfl⟩
  rw [hb] at C ⊢
  clear h h3 okr okv hb
  go_enter Tryz.func48, Tryz.ntmps48
  have B0 : Below w.heap.size w w := Below.refl _ _
  go_wp2_with fail
  refine (C.out _ _ (H.out.below (by go_grown) (Nat.le_refl _)) (V.out.below (by go_grown) (Nat.le_refl _)) (Bk.new (cs := [.int .i64 v.maj, .int .i64 v.min, .int .i64 v.pat, .slice p v.pre.length q]) _ _ (by simp))).mono ?_
  rintro e w1 ⟨rfl, hb⟩
  have B1 : Below w.heap.size w w1 := bcall (by go_grown) hb (by go_size)
  have q1 : w.heap.size + 2 ≤ w1.heap.size := by have z := hb.size; (try simp only [World.size_alloc] at z); omega
  replace H := Lib.hid (((H.out.below (Below.refl _ _ |>.alloc (Nat.le_refl _) _) (Nat.le_refl _)).below (Below.refl _ _ |>.alloc (Nat.le_refl _) _) (Nat.le_refl _)).below hb (Nat.le_refl _))
  replace V := Lib.hid (((V.out.below (Below.refl _ _ |>.alloc (Nat.le_refl _) _) (Nat.le_refl _)).below (Below.refl _ _ |>.alloc (Nat.le_refl _) _) (Nat.le_refl _)).below hb (Nat.le_refl _))
  have X := (((Bk.new (r := w.heap.size) (cs := [.slice a r.length c]) _ 24 (by simp)).alloc _)).below hb (by go_size)
  have Y := ((Bk.new (r := w.heap.size + 1) (cs := [.int .i64 v.maj, .int .i64 v.min, .int .i64 v.pat, .slice p v.pre.length q]) _ 27 (by simp))).below hb (by go_size)
  clear hb
  have s1 : w.heap.size ≤ w1.heap.size := B1.size
  obtain ⟨X_c, X_f, X_l⟩ := id X
  obtain ⟨Y_c, Y_f, Y_l⟩ := id Y
  go_wp2_with fail
  go_ret
  exact ⟨rfl, by go_grown⟩
/-- The fault of a question, and its answer. -/
def Pl.conF (r : List Pl.Ivl) (v : Pl.Ver) : Int × Int := if (Pl.rngF r).1 ≠ 0 then Pl.rngF r else if (Pl.vrF v).1 ≠ 0 then ((Pl.vrF v).1, -2) else (0, 0)
def Pl.conB (r : List Pl.Ivl) (v : Pl.Ver) : Bool := if (Pl.conF r v).1 ≠ 0 then false else Pl.hasB r v
set_option maxHeartbeats 1000000 in
theorem con_r (r : List Pl.Ivl) (v : Pl.Ver) (a p : Option Addr) (c q : Nat) (w : World) (h : RIn w r a c) (h3 : VIn w v p q) (f1 f2 : Int) (hf : f1 ≠ 0) (er : Pl.rngF r = (f1, f2)) :
    Calls Tryz.prog 16 #[.agg #[.slice a r.length c], verV v p q] w fun e w' => e = .returned (.tuple #[.bool (Pl.conB r v), fltV (Pl.conF r v)]) ∧ Below w.heap.size w w' := by
  have E1 : Pl.conF r v = (f1, f2) := by unfold Pl.conF; rw [er, if_pos hf]
  have E2 : Pl.conB r v = false := by unfold Pl.conB; rw [E1, if_pos hf]
  rw [E1, E2]
  have u1 := bneT hf
  have u2 := beqF hf
  clear hf
  have CR := Lib.hid (fun (W : World) (g : RIn W r a c) => rngValidate_any r a c W g)
  rw [er] at CR
  simp only [fltV] at CR
  have H := Lib.hid h
  have V := Lib.hid h3
  clear h h3 E1 E2 er
  go_enter Tryz.func16, Tryz.ntmps16
  have B0 : Below w.heap.size w w := Below.refl _ _
  go_wp2_with fail
  refine (CR.out _ (H.out.below (by go_grown) (Nat.le_refl _))).mono ?_
  rintro e w1 ⟨rfl, hb⟩
  have B1 : Below w.heap.size w w1 := bcall (by go_grown) hb (by go_size)
  have q1 : w.heap.size + 3 ≤ w1.heap.size := by have z := hb.size; (try simp only [World.size_alloc] at z); omega
  replace H := Lib.hid ((((H.out.below (Below.refl _ _ |>.alloc (Nat.le_refl _) _) (Nat.le_refl _)).below (Below.refl _ _ |>.alloc (Nat.le_refl _) _) (Nat.le_refl _)).below (Below.refl _ _ |>.alloc (Nat.le_refl _) _) (Nat.le_refl _)).below hb (Nat.le_refl _))
  replace V := Lib.hid ((((V.out.below (Below.refl _ _ |>.alloc (Nat.le_refl _) _) (Nat.le_refl _)).below (Below.refl _ _ |>.alloc (Nat.le_refl _) _) (Nat.le_refl _)).below (Below.refl _ _ |>.alloc (Nat.le_refl _) _) (Nat.le_refl _)).below hb (Nat.le_refl _))
  have X := ((((Bk.new (r := w.heap.size) (cs := [.slice a r.length c]) _ 24 (by simp)).alloc _).alloc _)).below hb (by go_size)
  have Y := (((Bk.new (r := w.heap.size + 1) (cs := [.int .i64 v.maj, .int .i64 v.min, .int .i64 v.pat, .slice p v.pre.length q]) _ 27 (by simp)).alloc _)).below hb (by go_size)
  have R := ((Bk.new (r := w.heap.size + 1 + 1) (cs := [.int .i64 0, .int .i64 0]) _ 29 (by simp))).below hb (by go_size)
  clear hb
  have s1 : w.heap.size ≤ w1.heap.size := B1.size
  obtain ⟨X_c, X_f, X_l⟩ := id X
  obtain ⟨Y_c, Y_f, Y_l⟩ := id Y
  obtain ⟨R_c, R_f, R_l⟩ := id R
  go_wp2_with fail
  go_region
  go_wp2_with fail
  refine bodyPost_ret (v := .tuple #[.bool false, .agg #[.int .i64 f1, .int .i64 f2]]) (by simp [results, Tryz.results16, go_sem, R_c, R_l]) rfl ⟨rfl, by go_grown⟩
set_option maxHeartbeats 1000000 in
theorem con_v (r : List Pl.Ivl) (v : Pl.Ver) (a p : Option Addr) (c q : Nat) (w : World) (h : RIn w r a c) (h3 : VIn w v p q) (er : Pl.rngF r = (0, 0)) (f1 f2 : Int) (hf : f1 ≠ 0) (ev : Pl.vrF v = (f1, f2)) :
    Calls Tryz.prog 16 #[.agg #[.slice a r.length c], verV v p q] w fun e w' => e = .returned (.tuple #[.bool (Pl.conB r v), fltV (Pl.conF r v)]) ∧ Below w.heap.size w w' := by
  have E1 : Pl.conF r v = (f1, -2) := by unfold Pl.conF; rw [er, if_neg (by decide), ev, if_pos hf]
  have E2 : Pl.conB r v = false := by unfold Pl.conB; rw [E1, if_pos hf]
  rw [E1, E2]
  have u1 := bneT hf
  have u2 := beqF hf
  clear hf
  have CR := Lib.hid (fun (W : World) (g : RIn W r a c) => rngValidate_any r a c W g)
  rw [er] at CR
  simp only [fltV] at CR
  have CV := Lib.hid (fun (W : World) (g : VIn W v p q) => Validate_any v p q W g)
  rw [ev] at CV
  simp only [fltV] at CV
  have H := Lib.hid h
  have V := Lib.hid h3
  clear h h3 E1 E2 er ev
  go_enter Tryz.func16, Tryz.ntmps16
  have B0 : Below w.heap.size w w := Below.refl _ _
  go_wp2_with fail
  refine (CR.out _ (H.out.below (by go_grown) (Nat.le_refl _))).mono ?_
  rintro e w1 ⟨rfl, hb⟩
  have B1 : Below w.heap.size w w1 := bcall (by go_grown) hb (by go_size)
  have q1 : w.heap.size + 3 ≤ w1.heap.size := by have z := hb.size; (try simp only [World.size_alloc] at z); omega
  replace H := Lib.hid ((((H.out.below (Below.refl _ _ |>.alloc (Nat.le_refl _) _) (Nat.le_refl _)).below (Below.refl _ _ |>.alloc (Nat.le_refl _) _) (Nat.le_refl _)).below (Below.refl _ _ |>.alloc (Nat.le_refl _) _) (Nat.le_refl _)).below hb (Nat.le_refl _))
  replace V := Lib.hid ((((V.out.below (Below.refl _ _ |>.alloc (Nat.le_refl _) _) (Nat.le_refl _)).below (Below.refl _ _ |>.alloc (Nat.le_refl _) _) (Nat.le_refl _)).below (Below.refl _ _ |>.alloc (Nat.le_refl _) _) (Nat.le_refl _)).below hb (Nat.le_refl _))
  have X := ((((Bk.new (r := w.heap.size) (cs := [.slice a r.length c]) _ 24 (by simp)).alloc _).alloc _)).below hb (by go_size)
  have Y := (((Bk.new (r := w.heap.size + 1) (cs := [.int .i64 v.maj, .int .i64 v.min, .int .i64 v.pat, .slice p v.pre.length q]) _ 27 (by simp)).alloc _)).below hb (by go_size)
  have R := ((Bk.new (r := w.heap.size + 1 + 1) (cs := [.int .i64 0, .int .i64 0]) _ 29 (by simp))).below hb (by go_size)
  clear hb
  have s1 : w.heap.size ≤ w1.heap.size := B1.size
  obtain ⟨X_c, X_f, X_l⟩ := id X
  obtain ⟨Y_c, Y_f, Y_l⟩ := id Y
  obtain ⟨R_c, R_f, R_l⟩ := id R
  go_wp2_with fail
  refine (CV.out _ (V.out.below (by go_grown) (Nat.le_refl _))).mono ?_
  rintro e w2 ⟨rfl, hb⟩
  have B2 : Below w.heap.size w w2 := bcall (by go_grown) hb (by go_size)
  have q2 : w1.heap.size + 1 ≤ w2.heap.size := by have z := hb.size; (try simp only [World.size_alloc] at z); omega
  replace H := Lib.hid ((H.out.below (Below.refl _ _ |>.alloc (Nat.le_refl _) _) (Nat.le_refl _)).below hb (Nat.le_refl _))
  replace V := Lib.hid ((V.out.below (Below.refl _ _ |>.alloc (Nat.le_refl _) _) (Nat.le_refl _)).below hb (Nat.le_refl _))
  replace X := ((X.alloc _)).below hb (by go_size)
  replace Y := ((Y.alloc _)).below hb (by go_size)
  replace R := ((R.alloc _)).below hb (by go_size)
  clear hb
  have s2 : w.heap.size ≤ w2.heap.size := B2.size
  clear X_c X_f X_l Y_c Y_f Y_l R_c R_f R_l
  obtain ⟨X_c, X_f, X_l⟩ := id X
  obtain ⟨Y_c, Y_f, Y_l⟩ := id Y
  obtain ⟨R_c, R_f, R_l⟩ := id R
  go_wp2_with fail
  go_region
  go_wp2_with fail
  refine bodyPost_ret (v := .tuple #[.bool false, .agg #[.int .i64 f1, .int .i64 (-2)]]) (by simp [results, Tryz.results16, go_sem, R_c, R_l]) rfl ⟨rfl, by go_grown⟩
set_option maxHeartbeats 1000000 in
theorem con_ok (r : List Pl.Ivl) (v : Pl.Ver) (a p : Option Addr) (c q : Nat) (w : World) (h : RIn w r a c) (h3 : VIn w v p q) (er : Pl.rngF r = (0, 0)) (ev : Pl.vrF v = (0, 0)) :
    Calls Tryz.prog 16 #[.agg #[.slice a r.length c], verV v p q] w fun e w' => e = .returned (.tuple #[.bool (Pl.conB r v), fltV (Pl.conF r v)]) ∧ Below w.heap.size w w' := by
  have E1 : Pl.conF r v = (0, 0) := by unfold Pl.conF; rw [er, if_neg (by decide), ev, if_neg (by decide)]
  have E2 : Pl.conB r v = Pl.hasB r v := by unfold Pl.conB; rw [E1, if_neg (by decide)]
  rw [E1, E2]
  have CR := Lib.hid (fun (W : World) (g : RIn W r a c) => rngValidate_any r a c W g)
  rw [er] at CR
  simp only [fltV] at CR
  have CV := Lib.hid (fun (W : World) (g : VIn W v p q) => Validate_any v p q W g)
  rw [ev] at CV
  simp only [fltV] at CV
  have CH := Lib.hid (fun (W : World) (g1 : RIn W r a c) (g2 : VIn W v p q) => rngHas_any r v a p c q W g1 g2 (Pl.rng_ok (by rw [er])).2.ok (Pl.vr_ok (by rw [ev])))
  obtain ⟨b, hb⟩ : ∃ b, Pl.hasB r v = b := ⟨_, rfl⟩
  rw [hb] at CH ⊢
  clear hb
  have H := Lib.hid h
  have V := Lib.hid h3
  clear h h3 E1 E2 er ev
  go_enter Tryz.func16, Tryz.ntmps16
  have B0 : Below w.heap.size w w := Below.refl _ _
  go_wp2_with fail
  refine (CR.out _ (H.out.below (by go_grown) (Nat.le_refl _))).mono ?_
  rintro e w1 ⟨rfl, hb⟩
  have B1 : Below w.heap.size w w1 := bcall (by go_grown) hb (by go_size)
  have q1 : w.heap.size + 3 ≤ w1.heap.size := by have z := hb.size; (try simp only [World.size_alloc] at z); omega
  replace H := Lib.hid ((((H.out.below (Below.refl _ _ |>.alloc (Nat.le_refl _) _) (Nat.le_refl _)).below (Below.refl _ _ |>.alloc (Nat.le_refl _) _) (Nat.le_refl _)).below (Below.refl _ _ |>.alloc (Nat.le_refl _) _) (Nat.le_refl _)).below hb (Nat.le_refl _))
  replace V := Lib.hid ((((V.out.below (Below.refl _ _ |>.alloc (Nat.le_refl _) _) (Nat.le_refl _)).below (Below.refl _ _ |>.alloc (Nat.le_refl _) _) (Nat.le_refl _)).below (Below.refl _ _ |>.alloc (Nat.le_refl _) _) (Nat.le_refl _)).below hb (Nat.le_refl _))
  have X := ((((Bk.new (r := w.heap.size) (cs := [.slice a r.length c]) _ 24 (by simp)).alloc _).alloc _)).below hb (by go_size)
  have Y := (((Bk.new (r := w.heap.size + 1) (cs := [.int .i64 v.maj, .int .i64 v.min, .int .i64 v.pat, .slice p v.pre.length q]) _ 27 (by simp)).alloc _)).below hb (by go_size)
  have R := ((Bk.new (r := w.heap.size + 1 + 1) (cs := [.int .i64 0, .int .i64 0]) _ 29 (by simp))).below hb (by go_size)
  clear hb
  have s1 : w.heap.size ≤ w1.heap.size := B1.size
  obtain ⟨X_c, X_f, X_l⟩ := id X
  obtain ⟨Y_c, Y_f, Y_l⟩ := id Y
  obtain ⟨R_c, R_f, R_l⟩ := id R
  go_wp2_with fail
  refine (CV.out _ (V.out.below (by go_grown) (Nat.le_refl _))).mono ?_
  rintro e w2 ⟨rfl, hb⟩
  have B2 : Below w.heap.size w w2 := bcall (by go_grown) hb (by go_size)
  have q2 : w1.heap.size + 1 ≤ w2.heap.size := by have z := hb.size; (try simp only [World.size_alloc] at z); omega
  replace H := Lib.hid ((H.out.below (Below.refl _ _ |>.alloc (Nat.le_refl _) _) (Nat.le_refl _)).below hb (Nat.le_refl _))
  replace V := Lib.hid ((V.out.below (Below.refl _ _ |>.alloc (Nat.le_refl _) _) (Nat.le_refl _)).below hb (Nat.le_refl _))
  replace X := ((X.alloc _)).below hb (by go_size)
  replace Y := ((Y.alloc _)).below hb (by go_size)
  replace R := ((R.alloc _)).below hb (by go_size)
  clear hb
  have s2 : w.heap.size ≤ w2.heap.size := B2.size
  clear X_c X_f X_l Y_c Y_f Y_l R_c R_f R_l
  obtain ⟨X_c, X_f, X_l⟩ := id X
  obtain ⟨Y_c, Y_f, Y_l⟩ := id Y
  obtain ⟨R_c, R_f, R_l⟩ := id R
  go_wp2_with fail
  refine (CH.out _ (H.out.below (by go_grown) (Nat.le_refl _)) (V.out.below (by go_grown) (Nat.le_refl _))).mono ?_
  rintro e w3 ⟨rfl, hb⟩
  have B3 : Below w.heap.size w w3 := bcall (by go_grown) hb (by go_size)
  have q3 : w2.heap.size + 1 ≤ w3.heap.size := by have z := hb.size; (try simp only [World.size_alloc] at z); omega
  replace H := Lib.hid ((H.out.below (Below.refl _ _ |>.alloc (Nat.le_refl _) _) (Nat.le_refl _)).below hb (Nat.le_refl _))
  replace V := Lib.hid ((V.out.below (Below.refl _ _ |>.alloc (Nat.le_refl _) _) (Nat.le_refl _)).below hb (Nat.le_refl _))
  replace X := ((X.alloc _)).below hb (by go_size)
  replace Y := ((Y.alloc _)).below hb (by go_size)
  replace R := ((R.alloc _)).below hb (by go_size)
  clear hb
  have s3 : w.heap.size ≤ w3.heap.size := B3.size
  clear X_c X_f X_l Y_c Y_f Y_l R_c R_f R_l
  obtain ⟨X_c, X_f, X_l⟩ := id X
  obtain ⟨Y_c, Y_f, Y_l⟩ := id Y
  obtain ⟨R_c, R_f, R_l⟩ := id R
  go_wp2_with fail
  refine bodyPost_ret (v := .tuple #[.bool b, .agg #[.int .i64 0, .int .i64 0]]) (by simp [results, Tryz.results16, go_sem, R_c]) rfl ⟨rfl, by go_grown⟩
theorem Contains_any (r : List Pl.Ivl) (v : Pl.Ver) (a p : Option Addr) (c q : Nat) (w : World) (h : RIn w r a c) (h3 : VIn w v p q) :
    Calls Tryz.prog 16 #[.agg #[.slice a r.length c], verV v p q] w fun e w' => e = .returned (.tuple #[.bool (Pl.conB r v), fltV (Pl.conF r v)]) ∧ Below w.heap.size w w' := by
  by_cases f1 : (Pl.rngF r).1 = 0
  · by_cases f2 : (Pl.vrF v).1 = 0
    · exact con_ok r v a p c q w h h3 (Pl.rng_zero f1) (Pl.vr_zero f2)
    · exact con_v r v a p c q w h h3 (Pl.rng_zero f1) _ _ f2 rfl
  · exact con_r r v a p c q w h h3 _ _ f1 rfl
set_option maxHeartbeats 1000000 in
theorem both_a (r s : List Pl.Ivl) (a b : Option Addr) (c d : Nat) (w : World) (h1 : RIn w r a c) (h2 : RIn w s b d) (f1 f2 : Int) (hf : f1 ≠ 0) (er : Pl.rngF r = (f1, f2)) :
    Calls Tryz.prog 51 #[.agg #[.slice a r.length c], .agg #[.slice b s.length d]] w fun e w' => e = .returned (fltV (Pl.pairF r s)) ∧ Below w.heap.size w w' := by
  have E1 : Pl.pairF r s = (f1, f2) := by rw [Pl.pairF_a (by rw [er]; exact hf), er]
  rw [E1]
  have u1 := bneT hf
  have u2 := beqF hf
  clear hf
  have CR := Lib.hid (fun (W : World) (g : RIn W r a c) => rngValidate_any r a c W g)
  rw [er] at CR
  simp only [fltV] at CR
  have H := Lib.hid h1
  have K := Lib.hid h2
  clear h1 h2 E1 er
  go_enter Tryz.func51, Tryz.ntmps51
  have B0 : Below w.heap.size w w := Below.refl _ _
  go_wp2_with fail
  refine (CR.out _ (H.out.below (by go_grown) (Nat.le_refl _))).mono ?_
  rintro e w1 ⟨rfl, hb⟩
  have B1 : Below w.heap.size w w1 := bcall (by go_grown) hb (by go_size)
  have q1 : w.heap.size + 3 ≤ w1.heap.size := by have z := hb.size; (try simp only [World.size_alloc] at z); omega
  replace H := Lib.hid ((((H.out.below (Below.refl _ _ |>.alloc (Nat.le_refl _) _) (Nat.le_refl _)).below (Below.refl _ _ |>.alloc (Nat.le_refl _) _) (Nat.le_refl _)).below (Below.refl _ _ |>.alloc (Nat.le_refl _) _) (Nat.le_refl _)).below hb (Nat.le_refl _))
  replace K := Lib.hid ((((K.out.below (Below.refl _ _ |>.alloc (Nat.le_refl _) _) (Nat.le_refl _)).below (Below.refl _ _ |>.alloc (Nat.le_refl _) _) (Nat.le_refl _)).below (Below.refl _ _ |>.alloc (Nat.le_refl _) _) (Nat.le_refl _)).below hb (Nat.le_refl _))
  have X := ((((Bk.new (r := w.heap.size) (cs := [.slice a r.length c]) _ 24 (by simp)).alloc _).alloc _)).below hb (by go_size)
  have Y := (((Bk.new (r := w.heap.size + 1) (cs := [.slice b s.length d]) _ 24 (by simp)).alloc _)).below hb (by go_size)
  have R := ((Bk.new (r := w.heap.size + 1 + 1) (cs := [.int .i64 0, .int .i64 0]) _ 29 (by simp))).below hb (by go_size)
  clear hb
  have s1 : w.heap.size ≤ w1.heap.size := B1.size
  obtain ⟨X_c, X_f, X_l⟩ := id X
  obtain ⟨Y_c, Y_f, Y_l⟩ := id Y
  obtain ⟨R_c, R_f, R_l⟩ := id R
  go_wp2_with fail
  refine bodyPost_ret (v := .agg #[.int .i64 f1, .int .i64 f2]) (by simp [results, Tryz.results51, go_sem, R_c, R_l]) rfl ⟨rfl, by go_grown⟩
set_option maxHeartbeats 1000000 in
theorem both_b (r s : List Pl.Ivl) (a b : Option Addr) (c d : Nat) (w : World) (h1 : RIn w r a c) (h2 : RIn w s b d) (er : Pl.rngF r = (0, 0)) (f1 f2 : Int) (hf : f1 ≠ 0) (es : Pl.rngF s = (f1, f2)) :
    Calls Tryz.prog 51 #[.agg #[.slice a r.length c], .agg #[.slice b s.length d]] w fun e w' => e = .returned (fltV (Pl.pairF r s)) ∧ Below w.heap.size w w' := by
  have E1 : Pl.pairF r s = (f1, -2) := by rw [Pl.pairF_b (by rw [er]) (by rw [es]; exact hf), es]
  rw [E1]
  have u1 := bneT hf
  have u2 := beqF hf
  clear hf
  have CR := Lib.hid (fun (W : World) (g : RIn W r a c) => rngValidate_any r a c W g)
  rw [er] at CR
  simp only [fltV] at CR
  have CS := Lib.hid (fun (W : World) (g : RIn W s b d) => rngValidate_any s b d W g)
  rw [es] at CS
  simp only [fltV] at CS
  have H := Lib.hid h1
  have K := Lib.hid h2
  clear h1 h2 E1 er es
  go_enter Tryz.func51, Tryz.ntmps51
  have B0 : Below w.heap.size w w := Below.refl _ _
  go_wp2_with fail
  refine (CR.out _ (H.out.below (by go_grown) (Nat.le_refl _))).mono ?_
  rintro e w1 ⟨rfl, hb⟩
  have B1 : Below w.heap.size w w1 := bcall (by go_grown) hb (by go_size)
  have q1 : w.heap.size + 3 ≤ w1.heap.size := by have z := hb.size; (try simp only [World.size_alloc] at z); omega
  replace H := Lib.hid ((((H.out.below (Below.refl _ _ |>.alloc (Nat.le_refl _) _) (Nat.le_refl _)).below (Below.refl _ _ |>.alloc (Nat.le_refl _) _) (Nat.le_refl _)).below (Below.refl _ _ |>.alloc (Nat.le_refl _) _) (Nat.le_refl _)).below hb (Nat.le_refl _))
  replace K := Lib.hid ((((K.out.below (Below.refl _ _ |>.alloc (Nat.le_refl _) _) (Nat.le_refl _)).below (Below.refl _ _ |>.alloc (Nat.le_refl _) _) (Nat.le_refl _)).below (Below.refl _ _ |>.alloc (Nat.le_refl _) _) (Nat.le_refl _)).below hb (Nat.le_refl _))
  have X := ((((Bk.new (r := w.heap.size) (cs := [.slice a r.length c]) _ 24 (by simp)).alloc _).alloc _)).below hb (by go_size)
  have Y := (((Bk.new (r := w.heap.size + 1) (cs := [.slice b s.length d]) _ 24 (by simp)).alloc _)).below hb (by go_size)
  have R := ((Bk.new (r := w.heap.size + 1 + 1) (cs := [.int .i64 0, .int .i64 0]) _ 29 (by simp))).below hb (by go_size)
  clear hb
  have s1 : w.heap.size ≤ w1.heap.size := B1.size
  obtain ⟨X_c, X_f, X_l⟩ := id X
  obtain ⟨Y_c, Y_f, Y_l⟩ := id Y
  obtain ⟨R_c, R_f, R_l⟩ := id R
  go_wp2_with fail
  refine (CS.out _ (K.out.below (by go_grown) (Nat.le_refl _))).mono ?_
  rintro e w2 ⟨rfl, hb⟩
  have B2 : Below w.heap.size w w2 := bcall (by go_grown) hb (by go_size)
  have q2 : w1.heap.size + 1 ≤ w2.heap.size := by have z := hb.size; (try simp only [World.size_alloc] at z); omega
  replace H := Lib.hid ((H.out.below (Below.refl _ _ |>.alloc (Nat.le_refl _) _) (Nat.le_refl _)).below hb (Nat.le_refl _))
  replace K := Lib.hid ((K.out.below (Below.refl _ _ |>.alloc (Nat.le_refl _) _) (Nat.le_refl _)).below hb (Nat.le_refl _))
  replace X := ((X.alloc _)).below hb (by go_size)
  replace Y := ((Y.alloc _)).below hb (by go_size)
  replace R := ((R.alloc _)).below hb (by go_size)
  clear hb
  have s2 : w.heap.size ≤ w2.heap.size := B2.size
  clear X_c X_f X_l Y_c Y_f Y_l R_c R_f R_l
  obtain ⟨X_c, X_f, X_l⟩ := id X
  obtain ⟨Y_c, Y_f, Y_l⟩ := id Y
  obtain ⟨R_c, R_f, R_l⟩ := id R
  go_wp2_with fail
  refine bodyPost_ret (v := .agg #[.int .i64 f1, .int .i64 (-2)]) (by simp [results, Tryz.results51, go_sem, R_c, R_l]) rfl ⟨rfl, by go_grown⟩
set_option maxHeartbeats 1000000 in
theorem both_ok (r s : List Pl.Ivl) (a b : Option Addr) (c d : Nat) (w : World) (h1 : RIn w r a c) (h2 : RIn w s b d) (er : Pl.rngF r = (0, 0)) (es : Pl.rngF s = (0, 0)) :
    Calls Tryz.prog 51 #[.agg #[.slice a r.length c], .agg #[.slice b s.length d]] w fun e w' => e = .returned (fltV (Pl.pairF r s)) ∧ Below w.heap.size w w' := by
  have E1 : Pl.pairF r s = (0, 0) := Pl.pairF_ok (by rw [er]) (by rw [es])
  rw [E1]
  have CR := Lib.hid (fun (W : World) (g : RIn W r a c) => rngValidate_any r a c W g)
  rw [er] at CR
  simp only [fltV] at CR
  have CS := Lib.hid (fun (W : World) (g : RIn W s b d) => rngValidate_any s b d W g)
  rw [es] at CS
  simp only [fltV] at CS
  have H := Lib.hid h1
  have K := Lib.hid h2
  clear h1 h2 E1 er es
  go_enter Tryz.func51, Tryz.ntmps51
  have B0 : Below w.heap.size w w := Below.refl _ _
  go_wp2_with fail
  refine (CR.out _ (H.out.below (by go_grown) (Nat.le_refl _))).mono ?_
  rintro e w1 ⟨rfl, hb⟩
  have B1 : Below w.heap.size w w1 := bcall (by go_grown) hb (by go_size)
  have q1 : w.heap.size + 3 ≤ w1.heap.size := by have z := hb.size; (try simp only [World.size_alloc] at z); omega
  replace H := Lib.hid ((((H.out.below (Below.refl _ _ |>.alloc (Nat.le_refl _) _) (Nat.le_refl _)).below (Below.refl _ _ |>.alloc (Nat.le_refl _) _) (Nat.le_refl _)).below (Below.refl _ _ |>.alloc (Nat.le_refl _) _) (Nat.le_refl _)).below hb (Nat.le_refl _))
  replace K := Lib.hid ((((K.out.below (Below.refl _ _ |>.alloc (Nat.le_refl _) _) (Nat.le_refl _)).below (Below.refl _ _ |>.alloc (Nat.le_refl _) _) (Nat.le_refl _)).below (Below.refl _ _ |>.alloc (Nat.le_refl _) _) (Nat.le_refl _)).below hb (Nat.le_refl _))
  have X := ((((Bk.new (r := w.heap.size) (cs := [.slice a r.length c]) _ 24 (by simp)).alloc _).alloc _)).below hb (by go_size)
  have Y := (((Bk.new (r := w.heap.size + 1) (cs := [.slice b s.length d]) _ 24 (by simp)).alloc _)).below hb (by go_size)
  have R := ((Bk.new (r := w.heap.size + 1 + 1) (cs := [.int .i64 0, .int .i64 0]) _ 29 (by simp))).below hb (by go_size)
  clear hb
  have s1 : w.heap.size ≤ w1.heap.size := B1.size
  obtain ⟨X_c, X_f, X_l⟩ := id X
  obtain ⟨Y_c, Y_f, Y_l⟩ := id Y
  obtain ⟨R_c, R_f, R_l⟩ := id R
  go_wp2_with fail
  refine (CS.out _ (K.out.below (by go_grown) (Nat.le_refl _))).mono ?_
  rintro e w2 ⟨rfl, hb⟩
  have B2 : Below w.heap.size w w2 := bcall (by go_grown) hb (by go_size)
  have q2 : w1.heap.size + 1 ≤ w2.heap.size := by have z := hb.size; (try simp only [World.size_alloc] at z); omega
  replace H := Lib.hid ((H.out.below (Below.refl _ _ |>.alloc (Nat.le_refl _) _) (Nat.le_refl _)).below hb (Nat.le_refl _))
  replace K := Lib.hid ((K.out.below (Below.refl _ _ |>.alloc (Nat.le_refl _) _) (Nat.le_refl _)).below hb (Nat.le_refl _))
  replace X := ((X.alloc _)).below hb (by go_size)
  replace Y := ((Y.alloc _)).below hb (by go_size)
  replace R := ((R.alloc _)).below hb (by go_size)
  clear hb
  have s2 : w.heap.size ≤ w2.heap.size := B2.size
  clear X_c X_f X_l Y_c Y_f Y_l R_c R_f R_l
  obtain ⟨X_c, X_f, X_l⟩ := id X
  obtain ⟨Y_c, Y_f, Y_l⟩ := id Y
  obtain ⟨R_c, R_f, R_l⟩ := id R
  go_wp2_with fail
  refine bodyPost_ret (v := .agg #[.int .i64 0, .int .i64 0]) (by simp [results, Tryz.results51, go_sem, R_c, R_l]) rfl ⟨rfl, by go_grown⟩
theorem both_any (r s : List Pl.Ivl) (a b : Option Addr) (c d : Nat) (w : World) (h1 : RIn w r a c) (h2 : RIn w s b d) :
    Calls Tryz.prog 51 #[.agg #[.slice a r.length c], .agg #[.slice b s.length d]] w fun e w' => e = .returned (fltV (Pl.pairF r s)) ∧ Below w.heap.size w w' := by
  by_cases f1 : (Pl.rngF r).1 = 0
  · by_cases f2 : (Pl.rngF s).1 = 0
    · exact both_ok r s a b c d w h1 h2 (Pl.rng_zero f1) (Pl.rng_zero f2)
    · exact both_b r s a b c d w h1 h2 (Pl.rng_zero f1) _ _ f2 rfl
  · exact both_a r s a b c d w h1 h2 _ _ f1 rfl
theorem limited_any (r : List Pl.Ivl) (a : Option Addr) (c : Nat) (w : World) (h : RIn w r a c) :
    Calls Tryz.prog 52 #[.agg #[.slice a r.length c]] w (RRngF (Pl.limR r) (Pl.limF r) w) := by
  have hm := h.len
  have H := Lib.hid h
  clear h
  by_cases hn : 12 < r.length
  · have t1 : decide ((12 : Int) < (r.length : Int)) = true := by simp; omega
    have E1 : Pl.limR r = [] := if_pos hn
    have E2 : Pl.limF r = (10, -3) := if_pos hn
    rw [E1, E2]
    clear E1 E2 hn
    go_enter Tryz.func52, Tryz.ntmps52
    go_wp2_with fail
    refine bodyPost_ret (v := .tuple #[.agg #[.slice none 0 0], .agg #[.int .i64 10, .int .i64 (-3)]]) (by simp [results, Tryz.results52, go_sem]) rfl ⟨none, 0, rfl, RIn.nil _, by go_grown⟩
  · have t1 : decide ((12 : Int) < (r.length : Int)) = false := by simp; omega
    have E1 : Pl.limR r = r := if_neg hn
    have E2 : Pl.limF r = (0, 0) := if_neg hn
    rw [E1, E2]
    clear E1 E2 hn
    go_enter Tryz.func52, Tryz.ntmps52
    go_wp2_with fail
    refine bodyPost_ret (v := .tuple #[.agg #[.slice a r.length c], .agg #[.int .i64 0, .int .i64 0]]) (by simp [results, Tryz.results52, go_sem]) rfl ⟨a, c, rfl, H.out.below (B := w.heap.size) (by go_grown) (Nat.le_refl _), by go_grown⟩
end Go.Proofs.YtjfkmbehckdjlaaGreatDoor
