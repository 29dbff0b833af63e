/- Contracts of package threshold and its reference: key lists. -/
import Derived.Test.YtldepnabkdpokaaWh
import Derived.Test.YtldepnabkdpokaaKc
import Derived.Test.YtldepnabkdpokaaMg
namespace Go.Proofs.Ytldepnabkdpokaa
open Go.RowKit

theorem Box2.drewN {w : World} {r : Nat} {x y : Value} (h : Box2 w r x y) (n : Nat) : Box2 (w.drewN n) r x y := h.below (B := w.heap.size) (below_drewN (Below.refl _ _) n) h.lt
theorem getD_of {α : Type} (xs : List α) (k : Nat) (d : α) (h : k < xs.length) : xs.getD k d = xs[k] := by
  rw [List.getD_eq_getElem?_getD, List.getElem?_eq_getElem h]; rfl

set_option maxHeartbeats 400000 in
theorem checkKeys_any (xs : List Int) (oa : Option Addr) (cap : Nat) (w : World) (hs : Sl w oa xs.length cap 1 (intVals xs)) (hm : xs.length ≤ 9223372036854775807) :
    Calls Try.prog 30 #[.slice oa xs.length cap] w fun e w' => e = .returned (.agg #[.int .i64 (Pl.keysF xs).1, .int .i64 (Pl.keysF xs).2]) ∧ Below w.heap.size w w' := by
  by_cases hn : xs.length ≤ 12
  · have e1 : Pl.keysF xs = Pl.keyAt xs xs.length 0 := by simp [Pl.keysF, hn]
    rw [e1]
    clear e1
    rcases hs.mem with h0 | ⟨b, off, rfl, hlt, hc⟩
    · have hl : xs = [] := by simpa [intVals] using h0
      subst hl
      clear hn hm
      go_enter Try.func30, Try.ntmps30
      go_wp2
      go_rounds 1
      go_returns
      exact ⟨rfl, by go_grown⟩
    · clear hs
      generalize hF : Pl.keyAt xs xs.length 0 = F
      have HF := Lib.hid hF
      clear hF
      go_enter Try.func30, Try.ntmps30
      go_wp2
      go_loopw [11] (fun i wr => ∃ k : Nat, k ≤ xs.length ∧ i = .int .i64 k ∧ Hid (Pl.keyAt xs (xs.length - k) k = F) ∧ Below (w.heap.size + 1) (w.alloc (.cells #[.int .i64 0, .int .i64 0] 27)) wr) (fun i _ => xs.length - (intOf i).toNat)
      case atStart => exact ⟨0, Nat.zero_le _, rfl, HF.out, Below.refl _ _⟩
      case round =>
        obtain ⟨k, hk, rfl, hu, hb⟩ := hrel
        have B1 : Below w.heap.size w wr := bcall (by go_grown) hb (by simp)
        obtain ⟨c0, c1, f0, f1, l1⟩ := (Box2.new w (.int .i64 0) (.int .i64 0) 27).below hb (by simp)
        by_cases hlt2 : k < xs.length
        · have hcell : wr.cell? ⟨b, off + k, none⟩ = some (.int .i64 xs[k]) := by
            rw [B1.cell (p := ⟨b, off + k, none⟩) hlt]
            exact hc k _ (intVals_get xs k hlt2)
          have HS := Lib.hid (Pl.keyAt_step xs k hlt2)
          by_cases hd : Pl.isKeyB xs[k] = true
          · by_cases h0 : 0 < k
            · have hlt3 : k - 1 < xs.length := by omega
              have hcell2 : wr.cell? ⟨b, off + (k - 1), none⟩ = some (.int .i64 xs[k - 1]) := by
                rw [B1.cell (p := ⟨b, off + (k - 1), none⟩) hlt]
                exact hc (k - 1) _ (intVals_get xs (k - 1) hlt3)
              have HG := Lib.hid (getD_of xs (k - 1) 0 hlt3)
              have ei : ((k : Int) - 1).toNat = k - 1 := by omega
              have e2 : IntKind.i64.wrap ((k : Int) - 1) = (k : Int) - 1 := IntWalk.i64_in _ (by omega)
              have e3 : (0 : Int) ≤ (k : Int) - 1 := by omega
              have e3' : (1 : Int) ≤ (k : Int) := by omega
              have e4 : (k : Int) - 1 < (xs.length : Int) := by omega
              have e5 : (k : Int) < (xs.length : Int) := by omega
              have e6 : decide ((0 : Int) < (k : Int)) = true := by simp; omega
              clear hc
              by_cases hle : xs[k] ≤ xs[k - 1]
              · have E := Lib.hid (show F = (5, (k : Int)) by rw [← hu.out, HS.out, if_pos hd, HG.out, if_pos ⟨h0, hle⟩])
                have t1 : decide (xs[k] ≤ xs[k - 1]) = true := by simp [hle]
                clear hle
                go_wp2_with (go_at_call 27; refine (isKey_any _ _).mono ?_; rintro e w' ⟨rfl, rfl⟩)
                refine bodyPost_ret (v := .agg #[.int .i64 5, .int .i64 (k : Int)]) (by simp [results, Try.results30, go_sem, c0, c1]) rfl ⟨by rw [E.out], by go_grown⟩
              · have E := Lib.hid (show Pl.keyAt xs (xs.length - (k + 1)) (k + 1) = F by rw [← hu.out, HS.out, if_pos hd, HG.out, if_neg (fun h => hle h.2)])
                have t1 : decide (xs[k] ≤ xs[k - 1]) = false := by simp; omega
                clear hle
                go_wp2_with (go_at_call 27; refine (isKey_any _ _).mono ?_; rintro e w' ⟨rfl, rfl⟩)
                go_roundw
                case rel => exact ⟨k + 1, hlt2, by go_num, E.out, hb⟩
                case measure => simp [intOf]; omega
            · have E := Lib.hid (show Pl.keyAt xs (xs.length - (k + 1)) (k + 1) = F by rw [← hu.out, HS.out, if_pos hd, if_neg (fun h => h0 h.1)])
              have e6 : decide ((0 : Int) < (k : Int)) = false := by simp; omega
              clear hc
              go_wp2_with (go_at_call 27; refine (isKey_any _ _).mono ?_; rintro e w' ⟨rfl, rfl⟩)
              go_roundw
              case rel => exact ⟨k + 1, hlt2, by go_num, E.out, hb⟩
              case measure => simp [intOf]; omega
          · have hd : Pl.isKeyB xs[k] = false := by simpa using hd
            have E := Lib.hid (show F = (3, (k : Int)) by rw [← hu.out, HS.out, hd]; rfl)
            clear hc
            go_wp2_with (go_at_call 27; refine (isKey_any _ _).mono ?_; rintro e w' ⟨rfl, rfl⟩)
            refine bodyPost_ret (v := .agg #[.int .i64 3, .int .i64 (k : Int)]) (by simp [results, Try.results30, go_sem, c0, c1]) rfl ⟨by rw [E.out], by go_grown⟩
        · have hk2 : k = xs.length := by omega
          have E := Lib.hid (show F = (0, 0) by rw [← hu.out, hk2, Pl.keyAt_end])
          clear hk2
          go_wp2_with fail
          refine bodyPost_ret (v := .agg #[.int .i64 0, .int .i64 0]) (by simp [results, Try.results30, go_sem, c0, c1]) rfl ⟨by rw [E.out], by go_grown⟩
  · have e1 : Pl.keysF xs = (2, -1) := by simp [Pl.keysF, hn]
    rw [e1]
    go_enter Try.func30, Try.ntmps30
    go_wp2
    go_returns
    exact ⟨rfl, by go_grown⟩
end Go.Proofs.Ytldepnabkdpokaa
