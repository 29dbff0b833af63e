/- Contract of the reference: the union of two ranges. -/
import Derived.Test.YtolfgcoalihmgaaGreatDoorEk
namespace Go.Proofs.YtolfgcoalihmgaaGreatDoor
open Go.RowKit
def UniInv (w : World) (r t : List Pl.Ivl) (b : Option Addr) (d k : Nat) (wr : World) : Prop :=
 ∃ acc o n c', (Bk wr w.heap.size [.slice o n c'] ∧ Bk wr (w.heap.size + 1) [.slice b t.length d] ∧ Bk wr (w.heap.size + 1 + 1) [.slice none 0 0]) ∧ RIn wr acc o c' ∧ acc.length = n ∧ Below w.heap.size w wr ∧ (t.take k).foldl Pl.withR r = acc ∧ Pl.Can acc ∧ n ≤ r.length + k ∧ w.heap.size + 3 ≤ wr.heap.size
theorem Pl.uni_succ {r t : List Pl.Ivl} {k : Nat} (hk : k < t.length) : (t.take (k + 1)).foldl Pl.withR r = Pl.withR ((t.take k).foldl Pl.withR r) t[k] := by
 rw [List.take_succ_eq_append_getElem hk, List.foldl_append]; rfl
set_option maxRecDepth 100000 in
set_option maxHeartbeats 8000000 in
theorem RangeUnion_any (r t : List Pl.Ivl) (a b : Option Addr) (c d : Nat) (w : World) (h1 : RIn w r a c) (h2 : RIn w t b d) (can1 : Pl.Can r) (okt : ∀ x ∈ t, x.Ok) (hn : r.length + t.length ≤ 500000) :
 Calls Tryz.prog 26 #[.agg #[.slice a r.length c], .agg #[.slice b t.length d]] w (RRng (Pl.unionR r t) w) := by
 have H := Hd h1
 have K := Hd h2
 have CAN := Hd can1
 have OK := Hd okt
 clear h1 h2 can1 okt
 go_enter Tryz.func26, Tryz.ntmps26
 have B0 := brl w
 go_wp2_with fail
 have X := (((Bk.new (r := w.heap.size) (cs := [.slice a r.length c]) w 33 (by simp)).alloc (.cells #[.slice b t.length d] 33)).alloc (.cells #[.slice none 0 0] 33))
 have Y := ((Bk.new (r := w.heap.size + 1) (cs := [.slice b t.length d]) (w.alloc (.cells #[.slice a r.length c] 33)) 33 (by simp)).alloc (.cells #[.slice none 0 0] 33))
 have R := (Bk.new (r := w.heap.size + 1 + 1) (cs := [.slice none 0 0]) ((w.alloc (.cells #[.slice a r.length c] 33)).alloc (.cells #[.slice b t.length d] 33)) 33 (by simp))
 generalize hW : (((w.alloc (.cells #[.slice a r.length c] 33)).alloc (.cells #[.slice b t.length d] 33)).alloc (.cells #[.slice none 0 0] 33)) = w1 at *
 have B1 : Below w.heap.size w w1 := by rw [← hW]; go_grown
 have q1 : w.heap.size + 3 ≤ w1.heap.size := by rw [← hW]; go_size
 clear hW
 have s1 := B1.size
 have ⟨Xc, Xf, Xl⟩ := X
 have ⟨Yc, Yf, Yl⟩ := Y
 have ⟨Rc, Rf, Rl⟩ := R
 clear Xc Xf Xl Yc Yf Yl Rc Rf Rl
 go_loopw [5] (fun i wr => ∃ k : Nat, k ≤ t.length ∧ i = .int .i64 k ∧ UniInv w r t b d k wr) (fun i _ => t.length - (intOf i).toNat)
 case atStart => exact ⟨0, Nat.zero_le _, rfl, r, a, r.length, c, ⟨X, Y, R⟩, H.out.bl B1, rfl, B1, rfl, CAN.out, nle, by omega⟩
 case round =>
  obtain ⟨k, hk, rfl, hinv⟩ := hrel
  clear X Y R B0 B1 q1 s1
  obtain ⟨acc, o, n, c', ⟨X, Y, R⟩, RA, hacc, B1, EQ, CA, hnk, q0⟩ := hinv
  subst hacc
  replace EQ := Hd EQ
  replace CA := Hd CA
  replace RA := Hd RA
  by_cases hlt2 : k < t.length
  · have t5 : decide ((k : Int) < (t.length : Int)) = true := decT (by omega)
    obtain ⟨bb, off, rfl, hltb, hat⟩ := K.out.at (by omega)
    obtain ⟨a1, b1, c1, d1, I0⟩ := hat k hlt2
    have HI := Hd I0
    have OY := Hd (OK.out _ (List.getElem_mem hlt2))
    have ST := Hd (Pl.uni_succ (r := r) hlt2)
    rw [EQ.out] at ST
    clear hat I0
    generalize t[k] = y at *
    have CN := Hd (Pl.withR_can CA.out OY.out).1
    have hln := Pl.withR_len acc y
    have ⟨Xc, Xf, Xl⟩ := X
    have ⟨Yc, Yf, Yl⟩ := Y
    have ⟨Rc, Rf, Rl⟩ := R
    go_wp2_with fail
    refine wp_region_ord [0, 1, 2, 3, 4, 5, 6, 7] (by kernel_rfl) (by kernel_rfl) ?_
    have B2 : Below w.heap.size w wr.drew := by go_grown
    have q2 : wr.heap.size ≤ wr.drew.heap.size := by simp only [World.size_drew]; omega
    replace RA := Hd (RA.out.bl (Below.refl _ _).drew)
    replace X := X.drew
    replace Y := Y.drew
    replace R := R.drew
    clear Xc Xf Xl Yc Yf Yl Rc Rf Rl
    generalize wr.drew = w2 at *
    have s2 := B2.size
    have ⟨Xc, Xf, Xl⟩ := X
    have ⟨Yc, Yf, Yl⟩ := Y
    have ⟨Rc, Rf, Rl⟩ := R
    obtain ⟨e0, e1, e2, e3, e4, e5, e6, e7, e8, VA, VB⟩ := HI.out.below B2 hltb nle
    repeat (refine wpI_rd rfl rfl ?_; go_big_quiet_step (fail); refine wpQuiet_nil ?_)
    refine wpI_call (f := 75) rfl rfl rfl (by simp [go_sem]; rfl) ?_
    refine (RangeWith_any acc y o a1 b1 c' c1 d1 _ RA.out VA VB CA.out OY.out (by omega)).mono ?_
    rintro e w3 ⟨o2, c2, rfl, RB, hb⟩
    replace RB := Hd RB
    refine ⟨_, rfl, hb, ?_⟩
    skip
    have B3 := bcm w hb
    have q3 : w2.heap.size ≤ w3.heap.size := qle hb
    replace RA := Hd (RA.out.bl hb)
    replace X := X.bw hb
    replace Y := Y.bw hb
    replace R := R.bw hb
    clear hb
    have s3 := B3.size
    clear Xc Xf Xl Yc Yf Yl Rc Rf Rl
    have ⟨Xc, Xf, Xl⟩ := X
    have ⟨Yc, Yf, Yl⟩ := Y
    have ⟨Rc, Rf, Rl⟩ := R
    try simp only [pts]
    clear VA VB RA e0 e1 e2 e3 e4 e5 e6 e7 e8
    generalize Pl.withR acc y = acc2 at *
    refine wpI_st rfl rfl rfl (w' := w3.setCell ⟨w.heap.size, 0, none⟩ (.slice o2 acc2.length c2)) (by simp [go_sem, Xc, Xf]) ?_
    try simp only [pts]
    refine wpI_nil ?_
    try simp only [pts]
    go_wp2_with fail
    go_roundw
    case rel => exact ⟨k + 1, hlt2, by go_num, acc2, o2, _, c2, ⟨X.st 0 _, Y.fr w.heap.size 0 (by omega) _, R.fr w.heap.size 0 (by omega) _⟩, RB.out.setBk X (by simp) (j := 0) rfl (by nofun) _, rfl, by go_grown, ST.out, CN.out, by omega, by have := B3.size; simp; omega⟩
    case measure => simp [intOf]; omega
  · have t5 : decide ((k : Int) < (t.length : Int)) = false := decF (by omega)
    have E := Hd (show acc = Pl.unionR r t by rw [← EQ.out, List.take_of_length_le (by omega)]; rfl)
    have ⟨Xc, Xf, Xl⟩ := X
    have ⟨Yc, Yf, Yl⟩ := Y
    have ⟨Rc, Rf, Rl⟩ := R
    go_wp2_with fail
    have RN := R.st 0 (.slice o acc.length c')
    obtain ⟨RNc, RNf, RNl⟩ := RN
    rw [← E.out]
    refine bodyPost_ret (v := .agg #[.slice o acc.length c']) (by simp [results, Tryz.results26, go_sem, RNc]) rfl ⟨o, c', rfl, RA.out.setBk R (by simp) (j := 0) rfl (by nofun) _, by go_grown⟩
end Go.Proofs.YtolfgcoalihmgaaGreatDoor
