/- Contracts: messages made; lists compared. -/
import Derived.Test.YtldepnabkdpokaaWd
namespace Go.Proofs.Ytldepnabkdpokaa
open Go.RowKit

theorem byteVals_one (l : List UInt8) : ∀ u ∈ byteVals l, u.oneCell' = true := by
  intro u hu
  obtain ⟨x, _, rfl⟩ := List.mem_map.1 hu
  rfl
theorem intVals_one (l : List Int) : ∀ u ∈ intVals l, u.oneCell' = true := by
  intro u hu
  obtain ⟨x, _, rfl⟩ := List.mem_map.1 hu
  rfl
namespace Pl
theorem msgV_ok {xs : List Int} (h : msgF xs = (0, 0)) : msgV xs = msgS xs := by simp [msgV, h]
theorem msgV_bad {xs : List Int} (h : (msgF xs).1 ≠ 0) : msgV xs = [] := by simp [msgV, h]
end Pl

def RetMsg (xs : List Int) (w : World) (e : Ending) (w' : World) : Prop :=
  ∃ oa cap, e = .returned (.tuple #[.slice oa (Pl.msgV xs).length cap, .agg #[.int .i64 (Pl.msgF xs).1, .int .i64 (Pl.msgF xs).2]]) ∧
    w'.ownsRow w.heap.size 5 1 (.slice oa (Pl.msgV xs).length cap) (Pl.msgV xs).length (byteVals (Pl.msgV xs)) ∧ Below w.heap.size w w'

theorem RetMsg.bad {xs : List Int} {w w' : World} {c i : Int} (h : Pl.msgF xs = (c, i)) (hc : c ≠ 0) (hb : Below w.heap.size w w') : RetMsg xs w (.returned (.tuple #[.slice none 0 0, .agg #[.int .i64 c, .int .i64 i]])) w' := by
  have hv : Pl.msgV xs = [] := Pl.msgV_bad (by rw [h]; exact hc)
  refine ⟨none, 0, ?_, ?_, hb⟩
  · rw [hv, h]; rfl
  · rw [hv]; exact World.ownsRow_nil _ _ _ _
theorem RetMsg.ok {xs : List Int} {w w' : World} {v : Value} (h : Pl.msgF xs = (0, 0)) {B n : Nat} (hn : n = (Pl.msgS xs).length) (hown : w'.ownsRow B 5 1 v n (byteVals (Pl.msgS xs))) (hB : w.heap.size ≤ B) (hb : Below w.heap.size w w') : RetMsg xs w (.returned (.tuple #[v, .agg #[.int .i64 0, .int .i64 0]])) w' := by
  obtain ⟨oa, cap, rfl⟩ := own_slice hown
  subst hn
  refine ⟨oa, cap, ?_, ?_, hb⟩
  · rw [Pl.msgV_ok h, h]
  · rw [Pl.msgV_ok h]
    refine ⟨hown.1, ?_⟩
    rcases hown.2 with h0 | ⟨g, c, cur, h1, h2, h3⟩
    · exact .inl h0
    · exact .inr ⟨g, c, cur, h1, by omega, h3⟩

set_option maxHeartbeats 400000 in
theorem Message_any (xs : List Int) (oa : Option Addr) (cap : Nat) (w : World) (hs : Sl w oa xs.length cap 1 (intVals xs)) (hm : xs.length ≤ 9223372036854775807) :
    Calls Try.prog 15 #[.slice oa xs.length cap] w (RetMsg xs w) := by
  by_cases hn : xs.length ≤ 64
  · rcases hs.mem with h0 | ⟨b, off, rfl, hlt, hc⟩
    · have hl : xs = [] := by simpa [intVals] using h0
      subst hl
      clear hn hm
      go_enter Try.func15, Try.ntmps15
      go_wp2
      go_rounds 1
      go_returns
      exact RetMsg.ok (by decide) (n := 0) rfl (World.ownsRow_nil _ _ _ _) (Nat.le_refl _) (by go_grown)
    · clear hs
      have e1 := Lib.hid (show Pl.msgF xs = Pl.digF 0 xs by simp [Pl.msgF, hn])
      go_enter Try.func15, Try.ntmps15
      go_wp2
      go_loopw [4, 13] (fun v i wr => ∃ k : Nat, k ≤ xs.length ∧ i = .int .i64 k ∧ UpTo Pl.isDigestB xs k ∧ wr.ownsRow (w.heap.size + 1) 5 1 v (8 * k) (byteVals (Pl.msgS (xs.take k))) ∧ Below (w.heap.size + 1) (w.alloc (.cells #[.int .i64 0, .int .i64 0] 27)) wr) (fun _ i _ => xs.length - (intOf i).toNat)
      case atStart => exact ⟨0, Nat.zero_le _, rfl, UpTo.zero _ _, World.ownsRow_nil _ _ _ _, Below.refl _ _⟩
      case round =>
        obtain ⟨k, hk, rfl, hu, hown, hb⟩ := hrel
        have B1 : Below w.heap.size w wr := bcall (by go_grown) hb (by simp)
        obtain ⟨c0, c1, f0, f1, l1⟩ := (Box2.new w (.int .i64 0) (.int .i64 0) 27).below hb (by simp)
        by_cases hlt2 : k < xs.length
        · have hcell : wr.cell? ⟨b, off + k, none⟩ = some (.int .i64 xs[k]) := by
            rw [B1.cell (p := ⟨b, off + k, none⟩) hlt]
            exact hc k _ (intVals_get xs k hlt2)
          clear hc
          by_cases hd : Pl.isDigestB xs[k] = true
          · have rd := Pl.isDigestB_true.1 hd
            have ht := Lib.hid (take_succ xs k hlt2)
            go_wp2_with (go_at_call 31; refine (isDigest_any _ _).mono ?_; rintro e w' ⟨rfl, rfl⟩)
            refine (Big_any _ _ (by omega) (by omega)).mono ?_
            rintro e w2 ⟨oa2, cap2, rfl, hown2, hb2⟩
            have hb3 := bcall hb hb2 l1
            have hown3 := ownsRow_below hown hb2 (Nat.le_refl _)
            go_wp2_with (at_builtin; refine ap (by rfl) (by rfl) Try.tBytes hb3 (by rfl) hown3 (m := 8) (Src.ofSl Try.tBytes.ht (Sl.own hown2) (by decide) (byteVals_one _)) (by omega) (by have := hb2.size; omega) ?_; intro v1 w3 hown4 hb4 hsz4)
            go_roundw
            case rel => exact ⟨k + 1, hlt2, by go_num, hu.succ hlt2 hd, by rw [ht.out, Pl.msgS_snoc, byteVals_append]; exact hown4, hb4⟩
            case measure => simp [intOf]; omega
          · have hd : Pl.isDigestB xs[k] = false := by simpa using hd
            have E := Lib.hid (show Pl.digF 0 xs = (3, (k : Int)) by unfold Pl.digF; rw [hu.bad hlt2 hd]; simp)
            go_wp2_with (go_at_call 31; refine (isDigest_any _ _).mono ?_; rintro e w' ⟨rfl, rfl⟩)
            refine bodyPost_ret (v := .tuple #[.slice none 0 0, .agg #[.int .i64 3, .int .i64 (k : Int)]]) (by simp [results, Try.results15, go_sem, c0, c1]) rfl (RetMsg.bad (by rw [e1.out, E.out]) (by decide) (by go_grown))
        · obtain rfl : k = xs.length := by omega
          have E := Lib.hid (show Pl.digF 0 xs = (0, 0) by unfold Pl.digF; rw [hu.all])
          rw [List.take_length] at hown
          have hown5 := ownsRow_setCell_below (ownsRow_setCell_below hown (a := ⟨w.heap.size, 0, none⟩) (by simp) (.int .i64 0)) (a := ⟨w.heap.size, 1, none⟩) (by simp) (.int .i64 0)
          go_wp2_with fail
          refine bodyPost_ret (by simp [results, Try.results15, go_sem, c0, c1]) rfl (RetMsg.ok (by rw [e1.out, E.out]) (by rw [Pl.msgS_length]) hown5 (Nat.le_succ _) (by go_grown))
  · go_enter Try.func15, Try.ntmps15
    go_wp2
    go_returns
    exact RetMsg.bad (by simp [Pl.msgF, hn]) (by decide) (by go_grown)

/-- Two lists of numbers are compared. -/
theorem Ints_any (xs ys : List Int) (oa ob : Option Addr) (ca cb : Nat) (w : World) (hs : Sl w oa xs.length ca 1 (intVals xs)) (ht : Sl w ob ys.length cb 1 (intVals ys)) (hm : xs.length ≤ 9223372036854775807) (hm2 : ys.length ≤ 9223372036854775807) :
    Calls Try.prog 11 #[.slice oa xs.length ca, .slice ob ys.length cb] w fun e w' => e = .returned (.bool (decide (xs = ys))) ∧ Below w.heap.size w w' := by
  by_cases hl : xs.length = ys.length
  · rcases hs.mem with h0 | ⟨b, off, rfl, hlt, hc⟩
    · have hx : xs = [] := by simpa [intVals] using h0
      subst hx
      have hy : ys = [] := List.eq_nil_of_length_eq_zero hl.symm
      subst hy
      clear hl hm hm2
      go_enter Try.func11, Try.ntmps11
      go_wp2
      go_rounds 1
      go_ret
      exact ⟨rfl, by go_grown⟩
    · rcases ht.mem with h0 | ⟨b2, off2, rfl, hlt2, hc2⟩
      · have hy : ys = [] := by simpa [intVals] using h0
        subst hy
        have hx : xs = [] := List.eq_nil_of_length_eq_zero hl
        subst hx
        clear hl hm hm2
        go_enter Try.func11, Try.ntmps11
        go_wp2
        go_rounds 1
        go_ret
        exact ⟨rfl, by go_grown⟩
      · clear hs ht
        have Hl := Lib.hid hl
        have hle : xs.length ≤ ys.length := Nat.le_of_eq hl
        have hge : ys.length ≤ xs.length := Nat.le_of_eq hl.symm
        have ht : ((xs.length : Int) != (ys.length : Int)) = false := by simp [hl]
        clear hl
        go_enter Try.func11, Try.ntmps11
        go_wp2
        go_loopw [5] (fun i wr => ∃ k : Nat, k ≤ xs.length ∧ i = .int .i64 k ∧ Hid (xs.take k = ys.take k) ∧ Below w.heap.size w wr) (fun i _ => xs.length - (intOf i).toNat)
        case atStart => exact ⟨0, Nat.zero_le _, rfl, rfl, Below.refl _ _⟩
        case round =>
          obtain ⟨k, hk, rfl, hu, hb⟩ := hrel
          by_cases hlt3 : k < xs.length
          · have hlt4 : k < ys.length := by omega
            have hcell : wr.cell? ⟨b, off + k, none⟩ = some (.int .i64 xs[k]) := by
              rw [hb.cell (p := ⟨b, off + k, none⟩) hlt]
              exact hc k _ (intVals_get xs k hlt3)
            have hcell2 : wr.cell? ⟨b2, off2 + k, none⟩ = some (.int .i64 ys[k]) := by
              rw [hb.cell (p := ⟨b2, off2 + k, none⟩) hlt2]
              exact hc2 k _ (intVals_get ys k hlt4)
            clear hc hc2
            by_cases he : xs[k] = ys[k]
            · have he2 : (xs[k] != ys[k]) = false := by simp [he]
              have HE := Lib.hid he
              clear he
              go_wp2_with fail
              go_quiet (fail)
              go_wp2_with fail
              go_roundw
              case rel => exact ⟨k + 1, hlt3, by go_num, show xs.take (k + 1) = ys.take (k + 1) by rw [take_succ xs k hlt3, take_succ ys k hlt4, hu.out, HE.out], below_drewN hb _⟩
              case measure => simp [intOf]; omega
            · have he2 : (xs[k] != ys[k]) = true := by simpa using he
              have HE := Lib.hid he
              clear he
              go_wp2_with fail
              go_quiet (fail)
              go_wp2_with fail
              go_ret
              exact ⟨ret_bool (by have : xs ≠ ys := fun e => HE.out (by subst e; rfl)
                                  simp [this]), below_drewN hb _⟩
          · obtain rfl : k = xs.length := by omega
            go_wp2_with fail
            go_ret
            exact ⟨ret_bool (by have h1 := hu.out; have h2 := Hl.out; rw [List.take_length, h2, List.take_length] at h1; simp [h1]), hb⟩
  · have hne : ¬ xs = ys := fun e => hl (by rw [e])
    have ht : ((xs.length : Int) != (ys.length : Int)) = true := by simp; omega
    clear hl
    have HN := Lib.hid hne
    clear hne
    go_enter Try.func11, Try.ntmps11
    go_wp2
    go_ret
    exact ⟨ret_bool (by have := HN.out; simp [this]), by go_grown⟩
end Go.Proofs.Ytldepnabkdpokaa
