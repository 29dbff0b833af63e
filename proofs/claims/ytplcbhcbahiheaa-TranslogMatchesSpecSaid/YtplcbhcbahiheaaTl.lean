/- Contract: the reference's root of a log. -/
import Derived.Test.YtplcbhcbahiheaaTk
namespace Go.Proofs.Ytplcbhcbahiheaa
open Go.RowKit

namespace Pl
def sizes (s : List (Int × Nat)) : Nat := (s.map (·.2)).sum
theorem sizes_cons (a : Int) (m : Nat) (s : List (Int × Nat)) : sizes ((a, m) :: s) = m + sizes s := by simp [sizes]
theorem mergeF_step {f : Nat} {a b : Int} {k : Nat} {s : List (Int × Nat)} : mergeF pairS (f + 1) ((a, k) :: (b, k) :: s) = mergeF pairS f ((pairS b a, 2 * k) :: s) := by rw [mergeF, if_pos rfl]
theorem mergeF_stop {f : Nat} {a b : Int} {m k : Nat} {s : List (Int × Nat)} (h : m ≠ k) : mergeF pairS f ((a, m) :: (b, k) :: s) = (a, m) :: (b, k) :: s := by
  cases f with
  | zero => rfl
  | succ f => rw [mergeF, if_neg h]
theorem mergeF_one {f : Nat} {x : Int × Nat} : mergeF pairS f [x] = [x] := by cases f <;> rfl
theorem stackF_snoc (l : List Int) (x : Int) : stackF pairS (l ++ [x]) = pushF pairS (stackF pairS l) x := by simp [stackF]
end Pl

theorem rev_get (t : List (Int × Nat)) (x : Int) (N j : Nat) (h : N + 1 + j = t.length) : (intVals ((x :: t.map fun p => p.1).reverse))[N]? = some (.int .i64 (t[j]'(by omega)).1) := by
  have h2 : N < t.length := by omega
  simp only [intVals, List.reverse_cons, List.map_append, List.map_reverse]
  rw [List.getElem?_append_left (by simp; exact h2), List.getElem?_reverse (by simp; exact h2)]
  simp only [List.length_map, List.map_map, List.getElem?_map]
  rw [show t.length - 1 - N = j by omega, List.getElem?_eq_getElem (by omega)]
  rfl
/-- The head of the outer loop. -/
def LogRel (xs : List Int) (w : World) (v3 v4 u : Value) (wr : World) : Prop :=
  ∃ k : Nat, k ≤ xs.length ∧ u = .int .i64 (k : Int) ∧ Two wr w.heap.size v3 v4 (Pl.stackF Pl.pairS (xs.take k)) ∧ Below w.heap.size w wr ∧ Pl.sizes (Pl.stackF Pl.pairS (xs.take k)) = k ∧ (Pl.stackF Pl.pairS (xs.take k)).length ≤ k ∧ ∀ p ∈ Pl.stackF Pl.pairS (xs.take k), Pl.isDigestB p.1 = true
/-- The head of the inner loop. -/
def MergeRel (S : List (Int × Nat)) (N : Nat) (w : World) (v3 v4 u : Value) (wr : World) : Prop :=
  ∃ (s : List (Int × Nat)) (f : Nat), 0 < s.length ∧ s.length ≤ f + 1 ∧ u = .int .i64 (s.length : Int) ∧ Two wr w.heap.size v3 v4 s ∧ Below w.heap.size w wr ∧ Pl.sizes s = N ∧ s.length ≤ N ∧ (∀ p ∈ s, Pl.isDigestB p.1 = true) ∧ Hid (Pl.mergeF Pl.pairS f s = S)

set_option maxRecDepth 100000 in
set_option maxHeartbeats 1600000 in
theorem LogRoot_any (xs : List Int) (oa : Option Addr) (cap : Nat) (w : World) (hs : Sl w oa xs.length cap 1 (intVals xs)) (hn : xs.length ≤ 64) (hd : ∀ x ∈ xs, Pl.isDigestB x = true) :
    Calls Try.prog 17 #[.slice oa xs.length cap] w fun e w' => e = .returned (.int .i64 (Pl.rootS xs)) ∧ Below w.heap.size w w' := by
  have hR := Lib.hid (Pl.logRootS_eq xs hn)
  replace hd := Lib.hid hd
  go_enter Try.func17, Try.ntmps17
  go_wp2
  go_loopw [3, 4, 5] (fun v3 v4 u wr => LogRel xs w v3 v4 u wr) (fun _ _ u _ => xs.length - (intOf u).toNat)
  case atStart => exact ⟨0, Nat.zero_le _, rfl, ⟨World.ownsRow_nil _ _ _ _, World.ownsRow_nil _ _ _ _, fun g h => by cases h⟩, Below.refl _ _, rfl, Nat.le_refl _, fun p hp => by cases hp⟩
  case round =>
    obtain ⟨k, hk, rfl, two, hbr, hsz, hsl, hdg⟩ := hrel
    have sr := hbr.size
    by_cases hkn : k < xs.length
    · rcases hs.mem with h0 | ⟨b, off, rfl, hlt, hc⟩
      · have : xs = [] := by simpa [intVals] using h0
        rw [this] at hkn
        simp at hkn
      have hcell : wr.cell? ⟨b, off + k, none⟩ = some (.int .i64 xs[k]) := by
        rw [hbr.cell (p := ⟨b, off + k, none⟩) hlt]
        exact hc k _ (intVals_get xs k hkn)
      have hst : Pl.stackF Pl.pairS (xs.take (k + 1)) = Pl.pushF Pl.pairS (Pl.stackF Pl.pairS (xs.take k)) xs[k] := by
        rw [List.take_succ_eq_append_getElem hkn, Pl.stackF_snoc]
      have hxd := Lib.hid (hd.out xs[k] (List.getElem_mem hkn))
      obtain ⟨x, hx⟩ : ∃ x, xs[k] = x := ⟨_, rfl⟩
      rw [hx] at hcell hst hxd
      obtain ⟨S, hS⟩ : ∃ S, Pl.stackF Pl.pairS (xs.take k) = S := ⟨_, rfl⟩
      rw [hS] at two hst hsz hsl hdg
      obtain ⟨S2, hS2⟩ : ∃ S2, Pl.pushF Pl.pairS S x = S2 := ⟨_, rfl⟩
      rw [hS2] at hst
      have hS2' := Lib.hid (show Pl.mergeF Pl.pairS (S.length + 1) ((x, 1) :: S) = S2 from hS2)
      have hlen : S.length ≤ 64 := by omega
      replace hst := Lib.hid hst
      replace hdg := Lib.hid hdg
      replace hsz := Lib.hid hsz
      have tr := two.r
      have two := Lib.hid two
      clear hc hx hS hS2
      go_wp2_with (first
        | (at_builtin; refine ap1x (by rfl) (by rfl) Try.tInts (by rfl) tr (m := 1) (by rfl) (by rfl) (by rfl) (by omega) sr ?_; intro v3 w2 own3 grow3 far3 siz3; have tz := two.out.push1 grow3; have sr2 : w.heap.size ≤ w2.heap.size := by omega)
        | (at_builtin; refine ap1x (by rfl) (by rfl) Try.tInts (by rfl) tz (m := 1) (by rfl) (by rfl) (by rfl) (by omega) sr2 ?_; intro v4 w3 own4 grow4 far4 siz4; obtain ⟨o3, c3, rfl⟩ := own_slice own3))
      have two2 := two.out.push grow3 own3 far3 siz3 grow4 own4 far4
      have B3 : Below w.heap.size w w3 := (hbr.grown grow3 sr (fun g hg => by rcases two.out.r.2 with ⟨h0, _⟩ | ⟨g', c, cu, h0, hB, _⟩ <;> rw [h0] at hg <;> cases hg; exact hB)).grown grow4 sr2 (fun g hg => by rcases two.out.z.2 with ⟨h0, _⟩ | ⟨g', c, cu, h0, hB, _⟩ <;> rw [h0] at hg <;> cases hg; exact hB)
      have hz3 : Pl.sizes ((x, 1) :: S) = k + 1 := by rw [Pl.sizes_cons, hsz.out]; omega
      have hd3 : ∀ p ∈ (x, 1) :: S, Pl.isDigestB p.1 = true := by
        intro p hp
        rcases List.mem_cons.1 hp with rfl | hp
        · exact hxd.out
        · exact hdg.out p hp
      have st : MergeRel S2 (k + 1) w (.slice o3 (S.length + 1) c3) v4 (.int .i64 ((S.length : Int) + 1)) w3 := ⟨(x, 1) :: S, S.length + 1, by simp, by simp, by simp, two2, B3, hz3, by simp; omega, hd3, hS2'⟩
      replace st := Lib.hid st
      have hk64 : k + 1 ≤ 64 := by omega
      clear hS2' hdg hsz hsl hlen tr two tz grow3 grow4 far3 far4 siz3 siz4 own3 own4 two2 B3 hz3 hd3 sr2 sr hbr hcell hxd
      go_loopw [3, 4, 6] (fun v3 v4 u wq => MergeRel S2 (k + 1) w v3 v4 u wq) (fun _ _ u _ => (intOf u).toNat)
      case atStart => exact st.out
      case round =>
        obtain ⟨s, f, hs0, hsf, rfl, two, hbq, hsz, hsl, hdg, hmf⟩ := hrel
        have sq := hbq.size
        obtain ⟨g3, c3, g4, c4, rfl, rfl, hne, hB3, hB4, hg3, hg4, k3, k4, f3, f4, hc3, hc4, hm3, hm4⟩ := two.slices hs0
        unfold maxLen at hm3 hm4
        match s, hs0 with
        | [p], _ =>
          have hS : S2 = [p] := by rw [← hmf.out, Pl.mergeF_one]
          have H := Lib.hid (fun nq => (show LogRel xs w (.slice (some ⟨g3, 0, none⟩) 1 c3) (.slice (some ⟨g4, 0, none⟩) 1 c4) (.int .i64 ((k : Int) + 1)) (wr.drewN nq) from ⟨k + 1, hkn, by go_num, by rw [hst.out, hS]; exact two.drewN nq, below_drewN hbq nq, by rw [hst.out, hS]; exact hsz, by rw [hst.out, hS]; exact hsl, by rw [hst.out, hS]; exact hdg⟩))
          clear two hbq hdg hmf k3 k4 hS
          go_wp2_with fail
          go_quiet (fail)
          go_wp2_with fail
          go_roundw
          case rel => exact H.out _
          case measure => simp [intOf]; omega
        | (a, m) :: (b, q) :: t, _ =>
          obtain ⟨n, hn0⟩ : ∃ n, t.length = n := ⟨_, rfl⟩
          have hl2 : ((a, m) :: (b, q) :: t).length = n + 2 := by simp [hn0]
          have c31 : wr.cell? ⟨g3, n + 1, none⟩ = some (.int .i64 a) := k3 (n + 1) _ (by simp [intVals, ← hn0])
          have c30 : wr.cell? ⟨g3, n, none⟩ = some (.int .i64 b) := k3 n _ (by simp [intVals, ← hn0])
          have c41 : wr.cell? ⟨g4, n + 1, none⟩ = some (.int .i64 (m : Int)) := k4 (n + 1) _ (by simp [intVals, ← hn0])
          have c40 : wr.cell? ⟨g4, n, none⟩ = some (.int .i64 (q : Int)) := k4 n _ (by simp [intVals, ← hn0])
          have f30 := f3 n
          have f40 := f4 n
          have hq64 : m + q ≤ 64 := by rw [Pl.sizes_cons, Pl.sizes_cons] at hsz; omega
          have hda := Lib.hid (hdg (a, m) (by simp))
          have hdb := Lib.hid (hdg (b, q) (by simp))
          rw [hl2] at two hsl hsf hc3 hc4 ⊢
          have e1 : IntKind.i64.wrap ((n : Int) + 2 - 1) = (n : Int) + 1 := by rw [IntWalk.i64_in _ (by omega)]; omega
          have e2 : IntKind.i64.wrap ((n : Int) + 2 - 2) = (n : Int) := by rw [IntWalk.i64_in _ (by omega)]; omega
          have e3 : IntKind.i64.wrap ((n : Int) + 1) = (n : Int) + 1 := IntWalk.i64_in _ (by omega)
          have ei : ((n : Int) + 1).toNat = n + 1 := by omega
          have n0 : (0 : Int) ≤ (n : Int) := by omega
          have n1 : (0 : Int) ≤ (n : Int) + 1 := by omega
          have t1 : decide ((1 : Int) < (n : Int) + 2) = true := by simp; omega
          clear k3 k4 f3 f4
          by_cases hmq : m = q
          · subst hmq
            have hmf2 : ∃ f', f = f' + 1 := by
              cases f with
              | zero => omega
              | succ f => exact ⟨f, rfl⟩
            obtain ⟨f, rfl⟩ := hmf2
            have hm2 : Pl.mergeF Pl.pairS f ((Pl.pairS b a, 2 * m) :: t) = S2 := by rw [← hmf.out, Pl.mergeF_step]
            have H := Lib.hid (fun (wx : World) (h2 : Below w.heap.size w wx) (h1 : Two wx w.heap.size (.slice (some ⟨g3, 0, none⟩) (n + 1) c3) (.slice (some ⟨g4, 0, none⟩) (n + 1) c4) ((Pl.pairS b a, 2 * m) :: t)) => (show MergeRel S2 (k + 1) w (.slice (some ⟨g3, 0, none⟩) (n + 1) c3) (.slice (some ⟨g4, 0, none⟩) (n + 1) c4) (.int .i64 ((n : Int) + 1)) wx from
              ⟨(Pl.pairS b a, 2 * m) :: t, f, by simp, by simp; omega, by simp [hn0], h1, h2, by rw [Pl.sizes_cons, Pl.sizes_cons] at hsz; rw [Pl.sizes_cons]; omega, by simp; omega, (fun p hp => by
                rcases List.mem_cons.1 hp with rfl | hp
                · exact Pl.pairS_digest _ _
                · exact hdg p (by simp [hp])), hm2⟩))
            have M := Lib.hid (fun (nq : Nat) => (two.drewN nq).merge2 hn0 hne (Pl.pairS b a))
            have hbq' := Lib.hid hbq
            clear two hdg hmf hm2 hsz hsl hbq
            have hne2 : g4 ≠ g3 := Ne.symm hne
            go_wp2_with fail
            go_quiet (fail)
            go_wp2_with fail
            refine wp_region_ord [0, 1, 2, 3, 4, 5, 6, 7, 8, 9, 10, 11, 12, 13, 14, 15] (by kernel_rfl) (by kernel_rfl) ?_
            repeat (refine wpI_rd rfl rfl ?_; go_big_quiet_step (fail); refine wpQuiet_nil ?_)
            refine wpI_call (f := 46) (args := #[.int .i64 b, .int .i64 a]) rfl rfl rfl (by simp [go_sem]) ?_
            refine (rpair_any b a _ hdb.out hda.out).mono ?_
            rintro e w' ⟨rfl, rfl⟩
            refine ⟨_, rfl, Below.refl _ _, ?_⟩
            try simp only [Act.put, List.setIfInBounds_toArray, List.set_cons_zero, List.set_cons_succ]
            repeat (refine wpI_rd rfl rfl ?_; go_big_quiet_step (fail); refine wpQuiet_nil ?_)
            refine wpI_st rfl rfl rfl (by simp [go_sem, c30, f30]; rfl) ?_
            refine wpI_nil ?_
            try simp only [Act.put]
            clear c30 c31 c40 c41 f30 f40
            go_wp2_with fail
            go_roundw
            case rel => exact H.out _ ((((below_drewN hbq'.out _).setCell hB4 _).setCell hB3 _).drew) ((M.out _).drew)
            case measure => (simp [intOf]; try omega)
          · have tq : ((m : Int) == (q : Int)) = false := by rw [beq_eq_false_iff_ne]; omega
            have hS : S2 = (a, m) :: (b, q) :: t := by rw [← hmf.out, Pl.mergeF_stop hmq]
            have H := Lib.hid (fun nq => (show LogRel xs w (.slice (some ⟨g3, 0, none⟩) (n + 2) c3) (.slice (some ⟨g4, 0, none⟩) (n + 2) c4) (.int .i64 ((k : Int) + 1)) (wr.drewN nq) from ⟨k + 1, hkn, by go_num, by rw [hst.out, hS]; exact two.drewN nq, below_drewN hbq nq, by rw [hst.out, hS]; exact hsz, by rw [hst.out, hS]; simp only [List.length_cons]; omega, by rw [hst.out, hS]; exact hdg⟩))
            clear two hbq hdg hmf hS hmq
            go_wp2_with fail
            go_quiet (fail)
            go_wp2_with fail
            go_roundw
            case rel => exact H.out _
            case measure => simp [intOf]; omega
    · obtain rfl : k = xs.length := by omega
      rw [List.take_length] at two hsz hsl hdg
      have hroot : Pl.foldF Pl.pairS 0 (Pl.stackF Pl.pairS xs) = Pl.rootS xs := hR.out
      obtain ⟨S, hS⟩ : ∃ S, Pl.stackF Pl.pairS xs = S := ⟨_, rfl⟩
      rw [hS] at two hsl hdg hroot
      clear hS hsz
      have hbr' := Lib.hid hbr
      match S, two, hsl, hdg, hroot with
      | [], two, hsl, hdg, hroot =>
        obtain ⟨o3, c3, rfl⟩ := own_slice two.r
        have hroot : Pl.rootS xs = 0 := hroot.symm
        replace hroot := Lib.hid hroot
        clear two hsl hdg
        go_wp2_with fail
        go_ret
        exact ⟨ret_int hroot.out.symm, hbr'.out⟩
      | (r0, m0) :: t, two, hsl, hdg, hroot =>
        obtain ⟨g3, c3, g4, c4, rfl, rfl, _, _, _, hg3, _, k3, _, _, _, hc3, _, hm3, _⟩ := two.slices (by simp)
        unfold maxLen at hm3
        have hroot : t.foldl (fun r p => Pl.pairS p.1 r) r0 = Pl.rootS xs := hroot
        have hcell : wr.cell? ⟨g3, t.length, none⟩ = some (.int .i64 r0) := k3 t.length _ (by simp [intVals])
        have hr0 := Lib.hid (hdg (r0, m0) (by simp))
        have hdt := Lib.hid (fun p hp => hdg p (List.mem_cons_of_mem _ hp))
        have hl2 : ((r0, m0) :: t).length = t.length + 1 := rfl
        rw [hl2] at hsl hc3 ⊢
        replace hroot := Lib.hid hroot
        have k3 := Lib.hid k3
        clear two hdg hl2
        have t0 : ((t.length : Int) + 1 == 0) = false := by rw [beq_eq_false_iff_ne]; omega
        go_wp2_with fail
        go_loop [7, 8] (fun r i => ∃ (v : Int) (N j : Nat), N + j = t.length ∧ r = .int .i64 v ∧ i = .int .i64 ((N : Int) - 1) ∧ Pl.isDigestB v = true ∧ Hid ((t.drop j).foldl (fun r p => Pl.pairS p.1 r) v = Pl.rootS xs)) (fun _ i => (intOf i + 1).toNat)
        case atStart => exact ⟨r0, t.length, 0, rfl, rfl, by go_num, hr0.out, hroot⟩
        case round =>
          obtain ⟨v, N, j, hNj, rfl, hi, hv, hfo⟩ := hrel
          replace hv := Lib.hid hv
          rcases N with _ | N
          · have hi : u8 = .int .i64 (-1) := hi
            subst hi
            have hfin : v = Pl.rootS xs := by
              have := hfo.out
              rw [List.drop_of_length_le (by omega)] at this
              exact this
            replace hfin := Lib.hid hfin
            clear hfo
            go_wp2_with fail
            go_ret
            exact ⟨ret_int hfin.out, hbr'.out⟩
          · rw [show ((N + 1 : Nat) : Int) - 1 = (N : Int) by omega] at hi
            subst hi
            have hj : j < t.length := by omega
            have hce : wr.cell? ⟨g3, N, none⟩ = some (.int .i64 t[j].1) := k3.out N _ (rev_get t r0 N j (by omega))
            have hpd := Lib.hid (hdt.out t[j] (List.getElem_mem hj))
            have hfo2 : (t.drop (j + 1)).foldl (fun r p => Pl.pairS p.1 r) (Pl.pairS t[j].1 v) = Pl.rootS xs := by
              have := hfo.out
              rw [List.drop_eq_getElem_cons hj] at this
              exact this
            replace hfo2 := Lib.hid hfo2
            obtain ⟨y, hy⟩ : ∃ y, t[j].1 = y := ⟨_, rfl⟩
            rw [hy] at hce hpd hfo2
            have hNl : (N : Int) < (t.length : Int) + 1 := by omega
            clear hfo hy hcell
            go_wp2_with (go_at_call 46; refine (rpair_any _ _ _ hpd.out hv.out).mono ?_; rintro e w' ⟨rfl, rfl⟩)
            go_round
            case rel => exact ⟨_, N, j + 1, by omega, rfl, by go_num, Pl.pairS_digest _ _, hfo2⟩
            case measure => (simp [intOf]; try omega)
end Go.Proofs.Ytplcbhcbahiheaa
