/- Texts joined: De Kv Df. -/
import Derived.Test.YtgngehfgcogceaaGreatDoorZMDd
import Derived.Test.YtgngehfgcogceaaGreatDoorZMKl
section
/- Contracts: what is in a range, by the program; two ranges checked; a range that must not be too large. -/
namespace Go.Proofs.YtgngehfgcogceaaGreatDoor
open Go.RowKit
theorem Bk.vin {w : World} {r : Nat} {cs : List Value} (h : Bk w r cs) : r < w.heap.size := h.lt
theorem decT {p : Prop} [Decidable p] (h : p) : decide p = true := decide_eq_true h
theorem decF {p : Prop} [Decidable p] (h : ¬ p) : decide p = false := decide_eq_false h
set_option maxHeartbeats 1000000 in
theorem has1_a (x : Pl.Ivl) (v : Pl.Ver) (a b p : Option Addr) (c d q vb : Nat) (w : World) (h1 : VIn w x.lo a c) (h2 : VIn w x.hi b d) (h3 : VIn w v p q) (hv : Bk w vb [.int .i64 v.maj, .int .i64 v.min, .int .i64 v.pat, .slice p v.pre.length q]) (okx : x.Ok) (okv : v.Ok) (k : Int) (e1 : Pl.verCmp x.lo v = k) (hk : ¬ k ≤ 0) :
    Calls Tryz.prog 49 #[ivV x a b c d, .pointer (some ⟨vb, 0, none⟩)] w fun e w' => e = .returned (.bool (Pl.inI x v)) ∧ Below w.heap.size w w' := by
  have CL := Lib.hid (fun (W : World) (g1 : VIn W x.lo a c) (g2 : VIn W v p q) => Order_any x.lo v a p c q W (VOk.of g1 okx.lo) (VOk.of g2 okv))
  rw [e1] at CL
  have E : Hid (false = Pl.inI x v) := Lib.hid (Eq.symm (by unfold Pl.inI; rw [e1, decF hk]; rfl))
  have t1 : decide (k ≤ 0) = false := decF hk
  have L := Lib.hid h1
  have R := Lib.hid h2
  have V := Lib.hid h3
  clear h1 h2 h3 okx okv e1 hk
  go_enter Tryz.func49, Tryz.ntmps49
  have B0 : Below w.heap.size w w := Below.refl _ _
  obtain ⟨hv_c, hv_f, hv_l⟩ := id hv
  go_wp2_with fail
  refine (CL.out _ (L.out.below (by go_grown) (Nat.le_refl _)) (V.out.below (by go_grown) (Nat.le_refl _))).mono ?_
  rintro e w1 ⟨rfl, hb⟩
  have B1 : Below w.heap.size w w1 := bcall (by go_grown) hb (by go_size)
  have q1 : w.heap.size + 1 ≤ w1.heap.size := by have z := hb.size; (try simp only [World.size_alloc] at z); omega
  replace L := Lib.hid ((L.out.below (Below.refl _ _ |>.alloc (Nat.le_refl _) _) (Nat.le_refl _)).below hb (Nat.le_refl _))
  replace R := Lib.hid ((R.out.below (Below.refl _ _ |>.alloc (Nat.le_refl _) _) (Nat.le_refl _)).below hb (Nat.le_refl _))
  replace V := Lib.hid ((V.out.below (Below.refl _ _ |>.alloc (Nat.le_refl _) _) (Nat.le_refl _)).below hb (Nat.le_refl _))
  replace hv := ((hv.alloc _)).below hb (by go_size)
  have X := ((Bk.new (r := w.heap.size) (cs := [.int .i64 x.lo.maj, .int .i64 x.lo.min, .int .i64 x.lo.pat, .slice a x.lo.pre.length c, .int .i64 x.hi.maj, .int .i64 x.hi.min, .int .i64 x.hi.pat, .slice b x.hi.pre.length d, .bool x.un]) _ 103 (by simp))).below hb (by go_size)
  clear hb
  have s1 : w.heap.size ≤ w1.heap.size := B1.size
  clear hv_c hv_f hv_l
  obtain ⟨hv_c, hv_f, hv_l⟩ := id hv
  obtain ⟨X_c, X_f, X_l⟩ := id X
  go_wp2_with fail
  go_ret
  exact ⟨ret_bool E.out, by go_grown⟩
set_option maxHeartbeats 1000000 in
theorem has1_b (x : Pl.Ivl) (v : Pl.Ver) (a b p : Option Addr) (c d q vb : Nat) (w : World) (h1 : VIn w x.lo a c) (h2 : VIn w x.hi b d) (h3 : VIn w v p q) (hv : Bk w vb [.int .i64 v.maj, .int .i64 v.min, .int .i64 v.pat, .slice p v.pre.length q]) (okx : x.Ok) (okv : v.Ok) (k : Int) (e1 : Pl.verCmp x.lo v = k) (hk : k ≤ 0) (hu : x.un = true) :
    Calls Tryz.prog 49 #[ivV x a b c d, .pointer (some ⟨vb, 0, none⟩)] w fun e w' => e = .returned (.bool (Pl.inI x v)) ∧ Below w.heap.size w w' := by
  have CL := Lib.hid (fun (W : World) (g1 : VIn W x.lo a c) (g2 : VIn W v p q) => Order_any x.lo v a p c q W (VOk.of g1 okx.lo) (VOk.of g2 okv))
  rw [e1] at CL
  have E : Hid (true = Pl.inI x v) := Lib.hid (Eq.symm (by unfold Pl.inI; rw [e1, decT hk, hu]; rfl))
  have t1 : decide (k ≤ 0) = true := decT hk
  unfold ivV
  rw [hu]
  have L := Lib.hid h1
  have R := Lib.hid h2
  have V := Lib.hid h3
  clear h1 h2 h3 okx okv e1 hk hu
  go_enter Tryz.func49, Tryz.ntmps49
  have B0 : Below w.heap.size w w := Below.refl _ _
  obtain ⟨hv_c, hv_f, hv_l⟩ := id hv
  go_wp2_with fail
  refine (CL.out _ (L.out.below (by go_grown) (Nat.le_refl _)) (V.out.below (by go_grown) (Nat.le_refl _))).mono ?_
  rintro e w1 ⟨rfl, hb⟩
  have B1 : Below w.heap.size w w1 := bcall (by go_grown) hb (by go_size)
  have q1 : w.heap.size + 1 ≤ w1.heap.size := by have z := hb.size; (try simp only [World.size_alloc] at z); omega
  replace L := Lib.hid ((L.out.below (Below.refl _ _ |>.alloc (Nat.le_refl _) _) (Nat.le_refl _)).below hb (Nat.le_refl _))
  replace R := Lib.hid ((R.out.below (Below.refl _ _ |>.alloc (Nat.le_refl _) _) (Nat.le_refl _)).below hb (Nat.le_refl _))
  replace V := Lib.hid ((V.out.below (Below.refl _ _ |>.alloc (Nat.le_refl _) _) (Nat.le_refl _)).below hb (Nat.le_refl _))
  replace hv := ((hv.alloc _)).below hb (by go_size)
  have X := ((Bk.new (r := w.heap.size) (cs := [.int .i64 x.lo.maj, .int .i64 x.lo.min, .int .i64 x.lo.pat, .slice a x.lo.pre.length c, .int .i64 x.hi.maj, .int .i64 x.hi.min, .int .i64 x.hi.pat, .slice b x.hi.pre.length d, .bool true]) _ 103 (by simp))).below hb (by go_size)
  clear hb
  have s1 : w.heap.size ≤ w1.heap.size := B1.size
  clear hv_c hv_f hv_l
  obtain ⟨hv_c, hv_f, hv_l⟩ := id hv
  obtain ⟨X_c, X_f, X_l⟩ := id X
  go_wp2_with fail
  go_ret
  exact ⟨ret_bool E.out, by go_grown⟩
set_option maxHeartbeats 1000000 in
theorem has1_c (x : Pl.Ivl) (v : Pl.Ver) (a b p : Option Addr) (c d q vb : Nat) (w : World) (h1 : VIn w x.lo a c) (h2 : VIn w x.hi b d) (h3 : VIn w v p q) (hv : Bk w vb [.int .i64 v.maj, .int .i64 v.min, .int .i64 v.pat, .slice p v.pre.length q]) (okx : x.Ok) (okv : v.Ok) (k l : Int) (e1 : Pl.verCmp x.lo v = k) (hk : k ≤ 0) (hu : x.un = false) (e2 : Pl.verCmp v x.hi = l) :
    Calls Tryz.prog 49 #[ivV x a b c d, .pointer (some ⟨vb, 0, none⟩)] w fun e w' => e = .returned (.bool (Pl.inI x v)) ∧ Below w.heap.size w w' := by
  have CL := Lib.hid (fun (W : World) (g1 : VIn W x.lo a c) (g2 : VIn W v p q) => Order_any x.lo v a p c q W (VOk.of g1 okx.lo) (VOk.of g2 okv))
  rw [e1] at CL
  have CH := Lib.hid (fun (W : World) (g1 : VIn W v p q) (g2 : VIn W x.hi b d) => Order_any v x.hi p b q d W (VOk.of g1 okv) (VOk.of g2 okx.hi))
  rw [e2] at CH
  have E : Hid (decide (l < 0) = Pl.inI x v) := Lib.hid (Eq.symm (by unfold Pl.inI; rw [e1, decT hk, hu, e2]; rfl))
  have t1 : decide (k ≤ 0) = true := decT hk
  unfold ivV
  rw [hu]
  have L := Lib.hid h1
  have R := Lib.hid h2
  have V := Lib.hid h3
  clear h1 h2 h3 okx okv e1 hk hu e2
  go_enter Tryz.func49, Tryz.ntmps49
  have B0 : Below w.heap.size w w := Below.refl _ _
  obtain ⟨hv_c, hv_f, hv_l⟩ := id hv
  go_wp2_with fail
  refine (CL.out _ (L.out.below (by go_grown) (Nat.le_refl _)) (V.out.below (by go_grown) (Nat.le_refl _))).mono ?_
  rintro e w1 ⟨rfl, hb⟩
  have B1 : Below w.heap.size w w1 := bcall (by go_grown) hb (by go_size)
  have q1 : w.heap.size + 1 ≤ w1.heap.size := by have z := hb.size; (try simp only [World.size_alloc] at z); omega
  replace L := Lib.hid ((L.out.below (Below.refl _ _ |>.alloc (Nat.le_refl _) _) (Nat.le_refl _)).below hb (Nat.le_refl _))
  replace R := Lib.hid ((R.out.below (Below.refl _ _ |>.alloc (Nat.le_refl _) _) (Nat.le_refl _)).below hb (Nat.le_refl _))
  replace V := Lib.hid ((V.out.below (Below.refl _ _ |>.alloc (Nat.le_refl _) _) (Nat.le_refl _)).below hb (Nat.le_refl _))
  replace hv := ((hv.alloc _)).below hb (by go_size)
  have X := ((Bk.new (r := w.heap.size) (cs := [.int .i64 x.lo.maj, .int .i64 x.lo.min, .int .i64 x.lo.pat, .slice a x.lo.pre.length c, .int .i64 x.hi.maj, .int .i64 x.hi.min, .int .i64 x.hi.pat, .slice b x.hi.pre.length d, .bool false]) _ 103 (by simp))).below hb (by go_size)
  clear hb
  have s1 : w.heap.size ≤ w1.heap.size := B1.size
  clear hv_c hv_f hv_l
  obtain ⟨hv_c, hv_f, hv_l⟩ := id hv
  obtain ⟨X_c, X_f, X_l⟩ := id X
  go_wp2_with fail
  refine (CH.out _ (V.out.below (by go_grown) (Nat.le_refl _)) (R.out.below (by go_grown) (Nat.le_refl _))).mono ?_
  rintro e w2 ⟨rfl, hb⟩
  have B2 : Below w.heap.size w w2 := bcall (by go_grown) hb (by go_size)
  have q2 : w1.heap.size + 0 ≤ w2.heap.size := by have z := hb.size; (try simp only [World.size_alloc, World.size_setCell, World.size_drew] at z); omega
  replace L := Lib.hid (L.out.below hb (Nat.le_refl _))
  replace R := Lib.hid (R.out.below hb (Nat.le_refl _))
  replace V := Lib.hid (V.out.below hb (Nat.le_refl _))
  replace hv := (hv).below hb (by go_size)
  replace X := (X).below hb (by go_size)
  clear hb
  have s2 : w.heap.size ≤ w2.heap.size := B2.size
  clear hv_c hv_f hv_l X_c X_f X_l
  obtain ⟨hv_c, hv_f, hv_l⟩ := id hv
  obtain ⟨X_c, X_f, X_l⟩ := id X
  by_cases hl : l < 0
  · have t2 := decT hl
    replace E := Lib.hid ((decT hl).symm.trans E.out)
    clear hl
    go_wp2_with fail
    go_ret
    exact ⟨ret_bool E.out, by go_grown⟩
  · have t2 := decF hl
    replace E := Lib.hid ((decF hl).symm.trans E.out)
    clear hl
    go_wp2_with fail
    go_ret
    exact ⟨ret_bool E.out, by go_grown⟩
theorem has1_any (x : Pl.Ivl) (v : Pl.Ver) (a b p : Option Addr) (c d q vb : Nat) (w : World) (h1 : VIn w x.lo a c) (h2 : VIn w x.hi b d) (h3 : VIn w v p q) (hv : Bk w vb [.int .i64 v.maj, .int .i64 v.min, .int .i64 v.pat, .slice p v.pre.length q]) (okx : x.Ok) (okv : v.Ok) :
    Calls Tryz.prog 49 #[ivV x a b c d, .pointer (some ⟨vb, 0, none⟩)] w fun e w' => e = .returned (.bool (Pl.inI x v)) ∧ Below w.heap.size w w' := by
  by_cases hk : Pl.verCmp x.lo v ≤ 0
  · cases hu : x.un with
    | true => exact has1_b x v a b p c d q vb w h1 h2 h3 hv okx okv _ rfl hk hu
    | false => exact has1_c x v a b p c d q vb w h1 h2 h3 hv okx okv _ _ rfl hk hu rfl
  · exact has1_a x v a b p c d q vb w h1 h2 h3 hv okx okv _ rfl hk
/-- No interval ahead of a place contains the version. -/
def Pl.NoTo (r : List Pl.Ivl) (v : Pl.Ver) (k : Nat) : Prop := ∀ j (h : j < r.length), j < k → Pl.inI r[j] v = false
theorem Pl.NoTo.succ {r : List Pl.Ivl} {v : Pl.Ver} {k : Nat} (h : Pl.NoTo r v k) {hk : k < r.length} (e : Pl.inI r[k] v = false) : Pl.NoTo r v (k + 1) := fun j hj h1 => by
  by_cases hjk : j = k
  · subst hjk; exact e
  · exact h j hj (by omega)
theorem Pl.NoTo.none {r : List Pl.Ivl} {v : Pl.Ver} {k : Nat} (h : Pl.NoTo r v k) (hk : r.length ≤ k) : Pl.hasB r v = false := Pl.hasB_no fun x hx => by
  obtain ⟨j, hj, rfl⟩ := List.mem_iff_getElem.1 hx
  exact h j hj (by omega)
theorem Pl.has_at {r : List Pl.Ivl} {v : Pl.Ver} {k : Nat} (hk : k < r.length) (e : Pl.inI r[k] v = true) : Pl.hasB r v = true := Pl.hasB_iff.2 ⟨_, List.getElem_mem hk, e⟩
def IdxRes (b : Bool) (w : World) (e : Ending) (w' : World) : Prop := ∃ n : Int, e = .returned (.int .i64 n) ∧ decide (0 ≤ n) = b ∧ Below w.heap.size w w'
set_option maxHeartbeats 1000000 in
theorem idxHas_any (r : List Pl.Ivl) (v : Pl.Ver) (a p : Option Addr) (c q vb : Nat) (w : World) (h : RIn w r a c) (h3 : VIn w v p q) (hv : Bk w vb [.int .i64 v.maj, .int .i64 v.min, .int .i64 v.pat, .slice p v.pre.length q]) (okr : ∀ x ∈ r, x.Ok) (okv : v.Ok) :
    Calls Tryz.prog 72 #[.slice a r.length c, .func (.func 49) #[] #[.pointer (some ⟨vb, 0, none⟩)]] w (IdxRes (Pl.hasB r v) w) := by
  have hm := h.len
  have H := Lib.hid h
  have V := Lib.hid h3
  have HV := Lib.hid hv
  have OK := Lib.hid okr
  have OV := Lib.hid okv
  obtain ⟨b, hb⟩ : ∃ b, Pl.hasB r v = b := ⟨_, rfl⟩
  rw [hb]
  have HB := Lib.hid hb
  clear h h3 hv okr okv hb
  go_enter Tryz.func72, Tryz.ntmps72
  go_wp2_with fail
  go_loopw [8] (fun i wr => ∃ k : Nat, k ≤ r.length ∧ i = .int .i64 k ∧ Hid (Pl.NoTo r v k) ∧ Below w.heap.size w wr) (fun i _ => r.length - (intOf i).toNat)
  case atStart => exact ⟨0, Nat.zero_le _, rfl, Lib.hid (fun _ _ h => absurd h (by omega)), Below.refl _ _⟩
  case round =>
    obtain ⟨k, hk, rfl, hu, hbw⟩ := hrel
    by_cases hlt2 : k < r.length
    · obtain ⟨b0, off, rfl, hlt, hat⟩ := (H.out.below hbw (Nat.le_refl _)).at (by omega)
      obtain ⟨a1, b1, c1, d1, I⟩ := hat k hlt2
      have OX := Lib.hid (OK.out _ (List.getElem_mem hlt2))
      have HT := Lib.hid (Pl.has_at (v := v) hlt2)
      have HN := Lib.hid (fun e => hu.out.succ (hk := hlt2) e)
      clear hat OK
      obtain ⟨e0, e1, e2, e3, e4, e5, e6, e7, e8, VL, VH⟩ := I
      have CX := Lib.hid (has1_any r[k] v a1 b1 p c1 d1 q vb wr VL VH (V.out.below hbw (Nat.le_refl _)) (HV.out.below hbw HV.out.lt) OX.out OV.out)
      obtain ⟨g, hg⟩ : ∃ g, Pl.inI r[k] v = g := ⟨_, rfl⟩
      rw [hg] at CX HT HN
      clear VL VH OX hg
      generalize r[k] = x at *
      go_wp2_with fail
      refine CX.out.mono ?_
      rintro e w1 ⟨rfl, hb⟩
      have B1 : Below w.heap.size w w1 := bcall hbw hb hbw.size
      clear hb e0 e1 e2 e3 e4 e5 e6 e7 e8 CX
      cases g with
      | true =>
        have E := Lib.hid (HB.out.symm.trans (HT.out rfl))
        go_wp2_with fail
        go_ret
        exact ⟨_, rfl, by rw [E.out]; simp, B1⟩
      | false =>
        have E := Lib.hid (HN.out rfl)
        clear HN HT
        go_wp2_with fail
        go_roundw
        case rel => exact ⟨k + 1, hlt2, by go_num, E, B1⟩
        case measure => simp [intOf]; omega
    · have E := Lib.hid (HB.out.symm.trans (hu.out.none (by omega)))
      go_wp2_with fail
      go_ret
      exact ⟨-1, rfl, by rw [E.out]; decide, hbw⟩
theorem conHas_any (r : List Pl.Ivl) (v : Pl.Ver) (a p : Option Addr) (c q vb : Nat) (w : World) (h : RIn w r a c) (h3 : VIn w v p q) (hv : Bk w vb [.int .i64 v.maj, .int .i64 v.min, .int .i64 v.pat, .slice p v.pre.length q]) (okr : ∀ x ∈ r, x.Ok) (okv : v.Ok) :
    Calls Tryz.prog 48 #[.slice a r.length c, .func (.func 49) #[] #[.pointer (some ⟨vb, 0, none⟩)]] w fun e w' => e = .returned (.bool (Pl.hasB r v)) ∧ Below w.heap.size w w' := by
  have C := Lib.hid (idxHas_any r v a p c q vb w h h3 hv okr okv)
  obtain ⟨b, hb⟩ : ∃ b, Pl.hasB r v = b := ⟨_, rfl⟩
  rw [hb] at C ⊢
  clear h h3 hv okr okv hb
  go_enter Tryz.func48, Tryz.ntmps48
  go_wp2_with fail
  refine C.out.mono ?_
  rintro e w1 ⟨n, rfl, hn, hb⟩
  have E := Lib.hid hn
  clear hn
  go_wp2_with fail
  go_ret
  exact ⟨ret_bool E.out, hb⟩
set_option maxHeartbeats 1000000 in
theorem rngHas_any (r : List Pl.Ivl) (v : Pl.Ver) (a p : Option Addr) (c q : Nat) (w : World) (h : RIn w r a c) (h3 : VIn w v p q) (okr : ∀ x ∈ r, x.Ok) (okv : v.Ok) :
    Calls Tryz.prog 27 #[.agg #[.slice a r.length c], verV v p q] w fun e w' => e = .returned (.bool (Pl.hasB r v)) ∧ Below w.heap.size w w' := by
  have H := Lib.hid h
  have V := Lib.hid h3
  have hm := h.len
  have C := Lib.hid (fun (W : World) (vb : Nat) (g1 : RIn W r a c) (g2 : VIn W v p q) (g3 : Bk W vb [.int .i64 v.maj, .int .i64 v.min, .int .i64 v.pat, .slice p v.pre.length q]) => conHas_any r v a p c q vb W g1 g2 g3 okr okv)
  obtain ⟨b, hb⟩ : ∃ b, Pl.hasB r v = b := ⟨_, rfl⟩
  rw [hb] at C ⊢
  clear h h3 okr okv hb
  go_enter Tryz.func27, Tryz.ntmps27
  have B0 : Below w.heap.size w w := Below.refl _ _
  go_wp2_with fail
  refine (C.out _ _ (H.out.below (by go_grown) (Nat.le_refl _)) (V.out.below (by go_grown) (Nat.le_refl _)) (Bk.new (cs := [.int .i64 v.maj, .int .i64 v.min, .int .i64 v.pat, .slice p v.pre.length q]) _ _ (by simp))).mono ?_
  rintro e w1 ⟨rfl, hb⟩
  have B1 : Below w.heap.size w w1 := bcall (by go_grown) hb (by go_size)
  have q1 : w.heap.size + 2 ≤ w1.heap.size := by have z := hb.size; (try simp only [World.size_alloc] at z); omega
  replace H := Lib.hid (((H.out.below (Below.refl _ _ |>.alloc (Nat.le_refl _) _) (Nat.le_refl _)).below (Below.refl _ _ |>.alloc (Nat.le_refl _) _) (Nat.le_refl _)).below hb (Nat.le_refl _))
  replace V := Lib.hid (((V.out.below (Below.refl _ _ |>.alloc (Nat.le_refl _) _) (Nat.le_refl _)).below (Below.refl _ _ |>.alloc (Nat.le_refl _) _) (Nat.le_refl _)).below hb (Nat.le_refl _))
  have X := (((Bk.new (r := w.heap.size) (cs := [.slice a r.length c]) _ 44 (by simp)).alloc _)).below hb (by go_size)
  have Y := ((Bk.new (r := w.heap.size + 1) (cs := [.int .i64 v.maj, .int .i64 v.min, .int .i64 v.pat, .slice p v.pre.length q]) _ 48 (by simp))).below hb (by go_size)
  clear hb
  have s1 : w.heap.size ≤ w1.heap.size := B1.size
  obtain ⟨X_c, X_f, X_l⟩ := id X
  obtain ⟨Y_c, Y_f, Y_l⟩ := id Y
  go_wp2_with fail
  go_ret
  exact ⟨rfl, by go_grown⟩
/-- The fault of a question, and its answer. -/
def Pl.conF (r : List Pl.Ivl) (v : Pl.Ver) : Int × Int := if (Pl.rngF r).1 ≠ 0 then Pl.rngF r else if (Pl.vrF v).1 ≠ 0 then ((Pl.vrF v).1, -2) else (0, 0)
def Pl.conB (r : List Pl.Ivl) (v : Pl.Ver) : Bool := if (Pl.conF r v).1 ≠ 0 then false else Pl.hasB r v
set_option maxHeartbeats 1000000 in
theorem con_r (r : List Pl.Ivl) (v : Pl.Ver) (a p : Option Addr) (c q : Nat) (w : World) (h : RIn w r a c) (h3 : VIn w v p q) (f1 f2 : Int) (hf : f1 ≠ 0) (er : Pl.rngF r = (f1, f2)) :
    Calls Tryz.prog 10 #[.agg #[.slice a r.length c], verV v p q] w fun e w' => e = .returned (.tuple #[.bool (Pl.conB r v), fltV (Pl.conF r v)]) ∧ Below w.heap.size w w' := by
  have E1 : Pl.conF r v = (f1, f2) := by unfold Pl.conF; rw [er, if_pos hf]
  have E2 : Pl.conB r v = false := by unfold Pl.conB; rw [E1, if_pos hf]
  rw [E1, E2]
  have u1 := bneT hf
  have u2 := beqF hf
  clear hf
  have CR := Lib.hid (fun (W : World) (g : RIn W r a c) => rngValidate_any r a c W g)
  rw [er] at CR
  simp only [fltV] at CR
  have H := Lib.hid h
  have V := Lib.hid h3
  clear h h3 E1 E2 er
  go_enter Tryz.func10, Tryz.ntmps10
  have B0 : Below w.heap.size w w := Below.refl _ _
  go_wp2_with fail
  refine (CR.out _ (H.out.below (by go_grown) (Nat.le_refl _))).mono ?_
  rintro e w1 ⟨rfl, hb⟩
  have B1 : Below w.heap.size w w1 := bcall (by go_grown) hb (by go_size)
  have q1 : w.heap.size + 3 ≤ w1.heap.size := by have z := hb.size; (try simp only [World.size_alloc] at z); omega
  replace H := Lib.hid ((((H.out.below (Below.refl _ _ |>.alloc (Nat.le_refl _) _) (Nat.le_refl _)).below (Below.refl _ _ |>.alloc (Nat.le_refl _) _) (Nat.le_refl _)).below (Below.refl _ _ |>.alloc (Nat.le_refl _) _) (Nat.le_refl _)).below hb (Nat.le_refl _))
  replace V := Lib.hid ((((V.out.below (Below.refl _ _ |>.alloc (Nat.le_refl _) _) (Nat.le_refl _)).below (Below.refl _ _ |>.alloc (Nat.le_refl _) _) (Nat.le_refl _)).below (Below.refl _ _ |>.alloc (Nat.le_refl _) _) (Nat.le_refl _)).below hb (Nat.le_refl _))
  have X := ((((Bk.new (r := w.heap.size) (cs := [.slice a r.length c]) _ 44 (by simp)).alloc _).alloc _)).below hb (by go_size)
  have Y := (((Bk.new (r := w.heap.size + 1) (cs := [.int .i64 v.maj, .int .i64 v.min, .int .i64 v.pat, .slice p v.pre.length q]) _ 48 (by simp)).alloc _)).below hb (by go_size)
  have R := ((Bk.new (r := w.heap.size + 1 + 1) (cs := [.int .i64 0, .int .i64 0]) _ 30 (by simp))).below hb (by go_size)
  clear hb
  have s1 : w.heap.size ≤ w1.heap.size := B1.size
  obtain ⟨X_c, X_f, X_l⟩ := id X
  obtain ⟨Y_c, Y_f, Y_l⟩ := id Y
  obtain ⟨R_c, R_f, R_l⟩ := id R
  go_wp2_with fail
  go_region
  go_wp2_with fail
  refine bodyPost_ret (v := .tuple #[.bool false, .agg #[.int .i64 f1, .int .i64 f2]]) (by simp [results, Tryz.results10, go_sem, R_c, R_l]) rfl ⟨rfl, by go_grown⟩
set_option maxHeartbeats 1000000 in
theorem con_v (r : List Pl.Ivl) (v : Pl.Ver) (a p : Option Addr) (c q : Nat) (w : World) (h : RIn w r a c) (h3 : VIn w v p q) (er : Pl.rngF r = (0, 0)) (f1 f2 : Int) (hf : f1 ≠ 0) (ev : Pl.vrF v = (f1, f2)) :
    Calls Tryz.prog 10 #[.agg #[.slice a r.length c], verV v p q] w fun e w' => e = .returned (.tuple #[.bool (Pl.conB r v), fltV (Pl.conF r v)]) ∧ Below w.heap.size w w' := by
  have E1 : Pl.conF r v = (f1, -2) := by unfold Pl.conF; rw [er, if_neg (by decide), ev, if_pos hf]
  have E2 : Pl.conB r v = false := by unfold Pl.conB; rw [E1, if_pos hf]
  rw [E1, E2]
  have u1 := bneT hf
  have u2 := beqF hf
  clear hf
  have CR := Lib.hid (fun (W : World) (g : RIn W r a c) => rngValidate_any r a c W g)
  rw [er] at CR
  simp only [fltV] at CR
  have CV := Lib.hid (fun (W : World) (g : VIn W v p q) => Validate_any v p q W g)
  rw [ev] at CV
  simp only [fltV] at CV
  have H := Lib.hid h
  have V := Lib.hid h3
  clear h h3 E1 E2 er ev
  go_enter Tryz.func10, Tryz.ntmps10
  have B0 : Below w.heap.size w w := Below.refl _ _
  go_wp2_with fail
  refine (CR.out _ (H.out.below (by go_grown) (Nat.le_refl _))).mono ?_
  rintro e w1 ⟨rfl, hb⟩
  have B1 : Below w.heap.size w w1 := bcall (by go_grown) hb (by go_size)
  have q1 : w.heap.size + 3 ≤ w1.heap.size := by have z := hb.size; (try simp only [World.size_alloc] at z); omega
  replace H := Lib.hid ((((H.out.below (Below.refl _ _ |>.alloc (Nat.le_refl _) _) (Nat.le_refl _)).below (Below.refl _ _ |>.alloc (Nat.le_refl _) _) (Nat.le_refl _)).below (Below.refl _ _ |>.alloc (Nat.le_refl _) _) (Nat.le_refl _)).below hb (Nat.le_refl _))
  replace V := Lib.hid ((((V.out.below (Below.refl _ _ |>.alloc (Nat.le_refl _) _) (Nat.le_refl _)).below (Below.refl _ _ |>.alloc (Nat.le_refl _) _) (Nat.le_refl _)).below (Below.refl _ _ |>.alloc (Nat.le_refl _) _) (Nat.le_refl _)).below hb (Nat.le_refl _))
  have X := ((((Bk.new (r := w.heap.size) (cs := [.slice a r.length c]) _ 44 (by simp)).alloc _).alloc _)).below hb (by go_size)
  have Y := (((Bk.new (r := w.heap.size + 1) (cs := [.int .i64 v.maj, .int .i64 v.min, .int .i64 v.pat, .slice p v.pre.length q]) _ 48 (by simp)).alloc _)).below hb (by go_size)
  have R := ((Bk.new (r := w.heap.size + 1 + 1) (cs := [.int .i64 0, .int .i64 0]) _ 30 (by simp))).below hb (by go_size)
  clear hb
  have s1 : w.heap.size ≤ w1.heap.size := B1.size
  obtain ⟨X_c, X_f, X_l⟩ := id X
  obtain ⟨Y_c, Y_f, Y_l⟩ := id Y
  obtain ⟨R_c, R_f, R_l⟩ := id R
  go_wp2_with fail
  refine (CV.out _ (V.out.below (by go_grown) (Nat.le_refl _))).mono ?_
  rintro e w2 ⟨rfl, hb⟩
  have B2 : Below w.heap.size w w2 := bcall (by go_grown) hb (by go_size)
  have q2 : w1.heap.size + 1 ≤ w2.heap.size := by have z := hb.size; (try simp only [World.size_alloc] at z); omega
  replace H := Lib.hid ((H.out.below (Below.refl _ _ |>.alloc (Nat.le_refl _) _) (Nat.le_refl _)).below hb (Nat.le_refl _))
  replace V := Lib.hid ((V.out.below (Below.refl _ _ |>.alloc (Nat.le_refl _) _) (Nat.le_refl _)).below hb (Nat.le_refl _))
  replace X := ((X.alloc _)).below hb (by go_size)
  replace Y := ((Y.alloc _)).below hb (by go_size)
  replace R := ((R.alloc _)).below hb (by go_size)
  clear hb
  have s2 : w.heap.size ≤ w2.heap.size := B2.size
  clear X_c X_f X_l Y_c Y_f Y_l R_c R_f R_l
  obtain ⟨X_c, X_f, X_l⟩ := id X
  obtain ⟨Y_c, Y_f, Y_l⟩ := id Y
  obtain ⟨R_c, R_f, R_l⟩ := id R
  go_wp2_with fail
  go_region
  go_wp2_with fail
  refine bodyPost_ret (v := .tuple #[.bool false, .agg #[.int .i64 f1, .int .i64 (-2)]]) (by simp [results, Tryz.results10, go_sem, R_c, R_l]) rfl ⟨rfl, by go_grown⟩
set_option maxHeartbeats 1000000 in
theorem con_ok (r : List Pl.Ivl) (v : Pl.Ver) (a p : Option Addr) (c q : Nat) (w : World) (h : RIn w r a c) (h3 : VIn w v p q) (er : Pl.rngF r = (0, 0)) (ev : Pl.vrF v = (0, 0)) :
    Calls Tryz.prog 10 #[.agg #[.slice a r.length c], verV v p q] w fun e w' => e = .returned (.tuple #[.bool (Pl.conB r v), fltV (Pl.conF r v)]) ∧ Below w.heap.size w w' := by
  have E1 : Pl.conF r v = (0, 0) := by unfold Pl.conF; rw [er, if_neg (by decide), ev, if_neg (by decide)]
  have E2 : Pl.conB r v = Pl.hasB r v := by unfold Pl.conB; rw [E1, if_neg (by decide)]
  rw [E1, E2]
  have CR := Lib.hid (fun (W : World) (g : RIn W r a c) => rngValidate_any r a c W g)
  rw [er] at CR
  simp only [fltV] at CR
  have CV := Lib.hid (fun (W : World) (g : VIn W v p q) => Validate_any v p q W g)
  rw [ev] at CV
  simp only [fltV] at CV
  have CH := Lib.hid (fun (W : World) (g1 : RIn W r a c) (g2 : VIn W v p q) => rngHas_any r v a p c q W g1 g2 (Pl.rng_ok (by rw [er])).2.ok (Pl.vr_ok (by rw [ev])))
  obtain ⟨b, hb⟩ : ∃ b, Pl.hasB r v = b := ⟨_, rfl⟩
  rw [hb] at CH ⊢
  clear hb
  have H := Lib.hid h
  have V := Lib.hid h3
  clear h h3 E1 E2 er ev
  go_enter Tryz.func10, Tryz.ntmps10
  have B0 : Below w.heap.size w w := Below.refl _ _
  go_wp2_with fail
  refine (CR.out _ (H.out.below (by go_grown) (Nat.le_refl _))).mono ?_
  rintro e w1 ⟨rfl, hb⟩
  have B1 : Below w.heap.size w w1 := bcall (by go_grown) hb (by go_size)
  have q1 : w.heap.size + 3 ≤ w1.heap.size := by have z := hb.size; (try simp only [World.size_alloc] at z); omega
  replace H := Lib.hid ((((H.out.below (Below.refl _ _ |>.alloc (Nat.le_refl _) _) (Nat.le_refl _)).below (Below.refl _ _ |>.alloc (Nat.le_refl _) _) (Nat.le_refl _)).below (Below.refl _ _ |>.alloc (Nat.le_refl _) _) (Nat.le_refl _)).below hb (Nat.le_refl _))
  replace V := Lib.hid ((((V.out.below (Below.refl _ _ |>.alloc (Nat.le_refl _) _) (Nat.le_refl _)).below (Below.refl _ _ |>.alloc (Nat.le_refl _) _) (Nat.le_refl _)).below (Below.refl _ _ |>.alloc (Nat.le_refl _) _) (Nat.le_refl _)).below hb (Nat.le_refl _))
  have X := ((((Bk.new (r := w.heap.size) (cs := [.slice a r.length c]) _ 44 (by simp)).alloc _).alloc _)).below hb (by go_size)
  have Y := (((Bk.new (r := w.heap.size + 1) (cs := [.int .i64 v.maj, .int .i64 v.min, .int .i64 v.pat, .slice p v.pre.length q]) _ 48 (by simp)).alloc _)).below hb (by go_size)
  have R := ((Bk.new (r := w.heap.size + 1 + 1) (cs := [.int .i64 0, .int .i64 0]) _ 30 (by simp))).below hb (by go_size)
  clear hb
  have s1 : w.heap.size ≤ w1.heap.size := B1.size
  obtain ⟨X_c, X_f, X_l⟩ := id X
  obtain ⟨Y_c, Y_f, Y_l⟩ := id Y
  obtain ⟨R_c, R_f, R_l⟩ := id R
  go_wp2_with fail
  refine (CV.out _ (V.out.below (by go_grown) (Nat.le_refl _))).mono ?_
  rintro e w2 ⟨rfl, hb⟩
  have B2 : Below w.heap.size w w2 := bcall (by go_grown) hb (by go_size)
  have q2 : w1.heap.size + 1 ≤ w2.heap.size := by have z := hb.size; (try simp only [World.size_alloc] at z); omega
  replace H := Lib.hid ((H.out.below (Below.refl _ _ |>.alloc (Nat.le_refl _) _) (Nat.le_refl _)).below hb (Nat.le_refl _))
  replace V := Lib.hid ((V.out.below (Below.refl _ _ |>.alloc (Nat.le_refl _) _) (Nat.le_refl _)).below hb (Nat.le_refl _))
  replace X := ((X.alloc _)).below hb (by go_size)
  replace Y := ((Y.alloc _)).below hb (by go_size)
  replace R := ((R.alloc _)).below hb (by go_size)
  clear hb
  have s2 : w.heap.size ≤ w2.heap.size := B2.size
  clear X_c X_f X_l Y_c Y_f Y_l R_c R_f R_l
  obtain ⟨X_c, X_f, X_l⟩ := id X
  obtain ⟨Y_c, Y_f, Y_l⟩ := id Y
  obtain ⟨R_c, R_f, R_l⟩ := id R
  go_wp2_with fail
  refine (CH.out _ (H.out.below (by go_grown) (Nat.le_refl _)) (V.out.below (by go_grown) (Nat.le_refl _))).mono ?_
  rintro e w3 ⟨rfl, hb⟩
  have B3 : Below w.heap.size w w3 := bcall (by go_grown) hb (by go_size)
  have q3 : w2.heap.size + 1 ≤ w3.heap.size := by have z := hb.size; (try simp only [World.size_alloc] at z); omega
  replace H := Lib.hid ((H.out.below (Below.refl _ _ |>.alloc (Nat.le_refl _) _) (Nat.le_refl _)).below hb (Nat.le_refl _))
  replace V := Lib.hid ((V.out.below (Below.refl _ _ |>.alloc (Nat.le_refl _) _) (Nat.le_refl _)).below hb (Nat.le_refl _))
  replace X := ((X.alloc _)).below hb (by go_size)
  replace Y := ((Y.alloc _)).below hb (by go_size)
  replace R := ((R.alloc _)).below hb (by go_size)
  clear hb
  have s3 : w.heap.size ≤ w3.heap.size := B3.size
  clear X_c X_f X_l Y_c Y_f Y_l R_c R_f R_l
  obtain ⟨X_c, X_f, X_l⟩ := id X
  obtain ⟨Y_c, Y_f, Y_l⟩ := id Y
  obtain ⟨R_c, R_f, R_l⟩ := id R
  go_wp2_with fail
  refine bodyPost_ret (v := .tuple #[.bool b, .agg #[.int .i64 0, .int .i64 0]]) (by simp [results, Tryz.results10, go_sem, R_c]) rfl ⟨rfl, by go_grown⟩
theorem Contains_any (r : List Pl.Ivl) (v : Pl.Ver) (a p : Option Addr) (c q : Nat) (w : World) (h : RIn w r a c) (h3 : VIn w v p q) :
    Calls Tryz.prog 10 #[.agg #[.slice a r.length c], verV v p q] w fun e w' => e = .returned (.tuple #[.bool (Pl.conB r v), fltV (Pl.conF r v)]) ∧ Below w.heap.size w w' := by
  by_cases f1 : (Pl.rngF r).1 = 0
  · by_cases f2 : (Pl.vrF v).1 = 0
    · exact con_ok r v a p c q w h h3 (Pl.rng_zero f1) (Pl.vr_zero f2)
    · exact con_v r v a p c q w h h3 (Pl.rng_zero f1) _ _ f2 rfl
  · exact con_r r v a p c q w h h3 _ _ f1 rfl
theorem limited_any (r : List Pl.Ivl) (a : Option Addr) (c : Nat) (w : World) (h : RIn w r a c) :
    Calls Tryz.prog 34 #[.agg #[.slice a r.length c]] w (RRngF (Pl.limR r) (Pl.limF r) w) := by
  have hm := h.len
  have H := Lib.hid h
  clear h
  by_cases hn : 12 < r.length
  · have t1 : decide ((12 : Int) < (r.length : Int)) = true := by simp; omega
    have E1 : Pl.limR r = [] := if_pos hn
    have E2 : Pl.limF r = (10, -3) := if_pos hn
    rw [E1, E2]
    clear E1 E2 hn
    go_enter Tryz.func34, Tryz.ntmps34
    go_wp2_with fail
    refine bodyPost_ret (v := .tuple #[.agg #[.slice none 0 0], .agg #[.int .i64 10, .int .i64 (-3)]]) (by simp [results, Tryz.results34, go_sem]) rfl ⟨none, 0, rfl, RIn.nil _, by go_grown⟩
  · have t1 : decide ((12 : Int) < (r.length : Int)) = false := by simp; omega
    have E1 : Pl.limR r = r := if_neg hn
    have E2 : Pl.limF r = (0, 0) := if_neg hn
    rw [E1, E2]
    clear E1 E2 hn
    go_enter Tryz.func34, Tryz.ntmps34
    go_wp2_with fail
    refine bodyPost_ret (v := .tuple #[.agg #[.slice a r.length c], .agg #[.int .i64 0, .int .i64 0]]) (by simp [results, Tryz.results34, go_sem]) rfl ⟨a, c, rfl, H.out.below (B := w.heap.size) (by go_grown) (Nat.le_refl _), by go_grown⟩
end Go.Proofs.YtgngehfgcogceaaGreatDoor

end
section
/- Own rows lie above a base; slices across stores elsewhere. No program in sight. -/
namespace Go.Proofs.YtgngehfgcogceaaGreatDoor
open Go.RowKit

theorem own_ge {w : World} {base : Nat} {e : TypeId} {size n cap : Nat} {oa : Option Addr} {xs : List Value} (h : w.ownsRow base e size (.slice oa n cap) n xs) : ∀ b off, oa = some ⟨b, off, none⟩ → base ≤ b := by
  intro b off hb
  subst hb
  rcases h.2 with ⟨a1, a2⟩ | ⟨g, c, cur, a1, hbg, _⟩
  · first | cases a1 | cases a2
  · cases a1
    exact hbg
end Go.Proofs.YtgngehfgcogceaaGreatDoor

end
section
/- Ranges in rows of one's own: appending, storing elsewhere. -/
namespace Go.Proofs.YtgngehfgcogceaaGreatDoor
open Go.RowKit

set_option maxRecDepth 100000 in
theorem Tryz.tIvl : ElemT Tryz.prog 42 103 9 104 := ⟨Tryz.underlying42, ⟨_, _, rfl, rfl, rfl, rfl, rfl⟩, by decide, by decide⟩
/-- The slice is empty, or lies in a block of this kind. -/
def SlQ (Q : Nat → Prop) (a : Option Addr) (n : Nat) : Prop := n = 0 ∨ ∃ b off, a = some ⟨b, off, none⟩ ∧ Q b
theorem SlQ.mono {Q R : Nat → Prop} {a : Option Addr} {n : Nat} (h : SlQ Q a n) (hQ : ∀ b, Q b → R b) : SlQ R a n := h.elim .inl fun ⟨b, off, h1, h2⟩ => .inr ⟨b, off, h1, hQ b h2⟩
theorem VIn.at {w : World} {v : Pl.Ver} {a : Option Addr} {c : Nat} (h : VIn w v a c) : SlQ (fun b => b < w.heap.size) a v.pre.length := by
  rcases h.sl.mem with h0 | ⟨b, off, rfl, hlt, _⟩
  · have : v.pre = [] := by simpa [strVals] using h0
    rw [this]; exact .inl rfl
  · exact .inr ⟨b, off, rfl, hlt⟩
theorem VIn.with {w : World} {v : Pl.Ver} {a : Option Addr} {c : Nat} {Q : Nat → Prop} (h : VIn w v a c) (hq : SlQ Q a v.pre.length) : SlQ (fun b => Q b ∧ b < w.heap.size) a v.pre.length := by
  rcases hq with h0 | ⟨b, off, rfl, hb⟩
  · exact .inl h0
  · rcases h.at with h0 | ⟨b2, off2, e, hb2⟩
    · exact .inl h0
    · cases e; exact .inr ⟨b, off, rfl, hb, hb2⟩
/-- A version whose identifiers do not lie in the row that grows. -/
theorem VIn.grown {w w' : World} {v : Pl.Ver} {a : Option Addr} {c : Nat} {row : Option Nat} (h : VIn w v a c) (hg : w.grownBy w' row) (hq : SlQ (fun b => some b ≠ row) a v.pre.length) : VIn w' v a c := by
  refine ⟨⟨h.sl.hl, h.sl.hcap, h.sl.hmax, ?_⟩, h.ss⟩
  rcases h.sl.mem with h0 | ⟨b, off, rfl, hlt, hc⟩
  · exact .inl h0
  · rcases hq with h0 | ⟨b2, off2, e, hb⟩
    · left
      have : v.pre = [] := List.length_eq_zero_iff.1 h0
      rw [this]; rfl
    · cases e
      refine .inr ⟨b, off, rfl, Nat.lt_of_lt_of_le hlt hg.size, fun j u hu => ?_⟩
      rw [World.cell?_of_block (hg.block b hlt (fun e => hb e))]
      exact hc j u hu
/-- The cells of an interval whose identifiers lie in blocks of this kind. -/
def IvQ (w : World) (Q : Nat → Prop) (x : Pl.Ivl) (cs : List Value) : Prop := ∃ a b c d, cs = ivC x a b c d ∧ VIn w x.lo a c ∧ VIn w x.hi b d ∧ SlQ Q a x.lo.pre.length ∧ SlQ Q b x.hi.pre.length
theorem IvQ.is {w : World} {Q : Nat → Prop} {x : Pl.Ivl} {cs : List Value} (h : IvQ w Q x cs) : IvIs w x cs := by
  obtain ⟨a, b, c, d, h1, h2, h3, _⟩ := h
  exact ⟨a, b, c, d, h1, h2, h3⟩
theorem IvQ.mono {w : World} {Q R : Nat → Prop} {x : Pl.Ivl} {cs : List Value} (h : IvQ w Q x cs) (hQ : ∀ b, Q b → b < w.heap.size → R b) : IvQ w R x cs := by
  obtain ⟨a, b, c, d, h1, h2, h3, h4, h5⟩ := h
  exact ⟨a, b, c, d, h1, h2, h3, (h2.with h4).mono fun b h => hQ b h.1 h.2, (h3.with h5).mono fun b h => hQ b h.1 h.2⟩
theorem IvQ.below {w w' : World} {Q : Nat → Prop} {x : Pl.Ivl} {cs : List Value} (h : IvQ w Q x cs) {B : Nat} (hb : Below B w w') (hB : w.heap.size ≤ B) : IvQ w' Q x cs := by
  obtain ⟨a, b, c, d, h1, h2, h3, h4, h5⟩ := h
  exact ⟨a, b, c, d, h1, h2.below hb hB, h3.below hb hB, h4, h5⟩
theorem IvQ.setNS {w : World} {Q : Nat → Prop} {x : Pl.Ivl} {cs : List Value} (h : IvQ w Q x cs) {p : Addr} {u : Value} (hp : w.cell? p = some u) (hu : ∀ s, u ≠ .string s) (y : Value) : IvQ (w.setCell p y) Q x cs := by
  obtain ⟨a, b, c, d, h1, h2, h3, h4, h5⟩ := h
  exact ⟨a, b, c, d, h1, h2.setNS hp hu y, h3.setNS hp hu y, h4, h5⟩
theorem IvQ.grown {w w' : World} {Q : Nat → Prop} {x : Pl.Ivl} {cs : List Value} {row : Option Nat} (h : IvQ w Q x cs) (hg : w.grownBy w' row) (hQ : ∀ b, Q b → some b ≠ row) : IvQ w' Q x cs := by
  obtain ⟨a, b, c, d, h1, h2, h3, h4, h5⟩ := h
  exact ⟨a, b, c, d, h1, h2.grown hg (h4.mono hQ), h3.grown hg (h5.mono hQ), h4, h5⟩
theorem IvIs.q {w : World} {x : Pl.Ivl} {cs : List Value} (h : IvIs w x cs) : IvQ w (fun b => b < w.heap.size) x cs := by
  obtain ⟨a, b, c, d, h1, h2, h3⟩ := h
  exact ⟨a, b, c, d, h1, h2, h3, h2.at, h3.at⟩
/-- A list of intervals in a row of one's own from B on; the identifiers lie from B0 on, and not in the row. -/
structure ROwn (w : World) (B B0 : Nat) (r : List Pl.Ivl) (v : Value) (n : Nat) : Prop where
  mem : ∃ cs, w.ownsRow B 103 9 v n cs ∧ Elems (IvQ w (fun b => B0 ≤ b ∧ some b ≠ v.ownBlock)) 9 r cs
  len : r.length = n
theorem ROwn.rin {w : World} {B B0 : Nat} {r : List Pl.Ivl} {a : Option Addr} {n c : Nat} (h : ROwn w B B0 r (.slice a n c) n) : RIn w r a c := by
  obtain ⟨cs, h1, h2⟩ := h.mem
  have h3 := Sl.own h1
  rw [← h.len] at h3
  exact ⟨cs, h3, h2.mono fun _ _ h => h.is⟩
theorem ROwn.below {w w' : World} {B B0 : Nat} {r : List Pl.Ivl} {v : Value} {n : Nat} (h : ROwn w B B0 r v n) {D : Nat} (hb : Below D w w') (hD : w.heap.size ≤ D) : ROwn w' B B0 r v n := by
  obtain ⟨cs, h1, h2⟩ := h.mem
  exact ⟨⟨cs, ownsRow_below h1 hb hD, h2.mono fun _ _ h => h.below hb hD⟩, h.len⟩
theorem ROwn.alloc {w : World} {B B0 : Nat} {r : List Pl.Ivl} {v : Value} {n : Nat} (h : ROwn w B B0 r v n) (o : Obj) : ROwn (w.alloc o) B B0 r v n := h.below ((Below.refl _ _).alloc (Nat.le_refl _) _) (Nat.le_refl _)
theorem ROwn.drew {w : World} {B B0 : Nat} {r : List Pl.Ivl} {v : Value} {n : Nat} (h : ROwn w B B0 r v n) : ROwn w.drew B B0 r v n := h.below (Below.refl _ _).drew (Nat.le_refl _)
theorem ROwn.nil (w : World) (B B0 : Nat) : ROwn w B B0 [] (.slice none 0 0) 0 := ⟨⟨[], World.ownsRow_nil _ _ _ _, Elems.nil⟩, rfl⟩
theorem ROwn.base {w : World} {B B' B0 B0' : Nat} {r : List Pl.Ivl} {v : Value} {n : Nat} (h : ROwn w B B0 r v n) (hB : B' ≤ B) (h0 : B0' ≤ B0) : ROwn w B' B0' r v n := by
  obtain ⟨cs, h1, h2⟩ := h.mem
  exact ⟨⟨cs, own_base0 h1 hB, h2.mono fun _ _ h => h.mono fun b hb _ => ⟨by omega, hb.2⟩⟩, h.len⟩
theorem ROwn.far {w : World} {B B0 : Nat} {r : List Pl.Ivl} {v : Value} {n : Nat} (h : ROwn w B B0 r v n) {p : Addr} {u : Value} (ha : p.block < B) (hp : w.cell? p = some u) (hu : ∀ s, u ≠ .string s) (y : Value) : ROwn (w.setCell p y) B B0 r v n := by
  obtain ⟨cs, h1, h2⟩ := h.mem
  exact ⟨⟨cs, ownsRow_far h1 ha y, h2.mono fun _ _ h => h.setNS hp hu y⟩, h.len⟩
theorem ROwn.slice {w : World} {B B0 : Nat} {r : List Pl.Ivl} {v : Value} {n : Nat} (h : ROwn w B B0 r v n) : ∃ oa c, v = .slice oa n c := by
  obtain ⟨cs, h1, _⟩ := h.mem
  exact own_slice h1
/-- One interval more, behind an append. -/
theorem ROwn.app {w w' : World} {B B0 : Nat} {r : List Pl.Ivl} {v v' : Value} {n : Nat} {cs C : List Value} {x : Pl.Ivl} (hl : r.length = n) (h2 : Elems (IvQ w (fun b => B0 ≤ b ∧ some b ≠ v.ownBlock)) 9 r cs)
    (hx : IvQ w (fun b => B0 ≤ b ∧ some b ≠ v.ownBlock) x C) (own : w'.ownsRow B 103 9 v' (n + 1) (cs ++ C)) (hg : w.grownBy w' v.ownBlock) (hv : v'.ownBlock = v.ownBlock ∨ v'.ownBlock = some w.heap.size) :
    ROwn w' B B0 (r ++ [x]) v' (n + 1) := by
  have key : ∀ y c, IvQ w (fun b => B0 ≤ b ∧ some b ≠ v.ownBlock) y c → IvQ w' (fun b => B0 ≤ b ∧ some b ≠ v'.ownBlock) y c := fun y c h => by
    refine IvQ.grown (h.mono (R := fun b => (B0 ≤ b ∧ some b ≠ v'.ownBlock) ∧ some b ≠ v.ownBlock) fun b hb hlt => ⟨⟨hb.1, ?_⟩, hb.2⟩) hg (fun b hb => hb.2) |>.mono fun b hb _ => hb.1
    rcases hv with e | e
    · rw [e]; exact hb.2
    · rw [e]; intro e2; cases e2; omega
  exact ⟨⟨cs ++ C, own, (h2.mono key).append (Elems.one (key _ _ hx) hx.is.len)⟩, by simp [hl]⟩
/-- Behind an append: what lies below the row's base is as it was. -/
theorem grown_below {w w' : World} {B : Nat} {e : TypeId} {size n : Nat} {v : Value} {xs : List Value} (hg : w.grownBy w' v.ownBlock) (hown : w.ownsRow B e size v n xs) (hB : B ≤ w.heap.size) : Below B w w' :=
  (Below.refl B w).grown hg hB fun k hk => (hown.lt k hk).1
/-- A range of one's own is handed back. -/
def RRngO (r : List Pl.Ivl) (w : World) (e : Ending) (w' : World) : Prop := ∃ a n c, e = .returned (.agg #[.slice a n c]) ∧ ROwn w' w.heap.size w.heap.size r (.slice a n c) n ∧ Below w.heap.size w w'
theorem RRngO.rng {r : List Pl.Ivl} {w w' : World} {e : Ending} (h : RRngO r w e w') : RRng r w e w' := by
  obtain ⟨a, n, c, h1, h2, h3⟩ := h
  have := h2.len
  subst this
  exact ⟨a, c, h1, h2.rin, h3⟩
/-- append onto an own row in a region that draws its order: which block the row lies in. -/
theorem wpI_apx {P : Program} {Q : Act → World → Prop} {a : Act} {w : World} {l : List Oper} {i : Nat} {rest : List Nat} {o : Oper} (hi : l[i]? = some o) (hw : Region.wanted o (yielded l.toArray a.tmps) = true) {s x : Operand} {t tx : TypeId}
    (ho : o.op = .call { callee := .builtin .append, args := #[s, x], argTypes := #[t, tx] })
    {e : TypeId} {size bytes : Nat} (T : ElemT P t e size bytes) {B : Nat} {v : Value} {n : Nat} {xs : List Value} (hs : a.eval s = v) (hown : w.ownsRow B e size v n xs)
    {m : Nat} {news : List Value} (hsrc : Src P size tx (a.eval x) m news w) (hbytes : (n + m) * bytes ≤ 140737488355328) (hbase : B ≤ w.heap.size)
    (h : ∀ v' w', w'.ownsRow B e size v' (n + m) (xs ++ news) → w.grownBy w' v.ownBlock → (v'.ownBlock = v.ownBlock ∨ v'.ownBlock = some w.heap.size) → wpI P l.toArray Q rest (a.put o.dst v') w') : wpI P l.toArray Q (i :: rest) a w := by
  obtain ⟨v', w', hr, h2, h3, h4⟩ := run_ap (ty := o.type) T hown hsrc (T.maxLen_of hbytes) hbytes hbase
  refine wpI_stv hi (by rw [ho]; rfl) hw (u := v') (w' := w') ?_ (h v' w' h2 h3 h4)
  unfold execOp
  simp only [ho, resolve, invoke, builtin, Sem.run_bind, Sem.run_pure, Result.andThen_ok, List.map_toArray, List.map_cons, List.map_nil, hs, hr]
end Go.Proofs.YtgngehfgcogceaaGreatDoor

end
