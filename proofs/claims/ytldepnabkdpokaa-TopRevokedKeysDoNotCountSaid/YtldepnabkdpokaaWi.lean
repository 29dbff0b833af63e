/- Messages of digests are different. -/
import Derived.Test.YtldepnabkdpokaaWe
namespace Go.Proofs.Ytldepnabkdpokaa
open Go.RowKit

namespace Pl
theorem dstep (a b : Int) (h : a % 256 = b % 256) (h2 : a / 256 = b / 256) : a = b := by omega
theorem big_inj0 (n m : Int) (h0 : 0 ≤ n) (h1 : n < 2305843009213693951) (g0 : 0 ≤ m) (g1 : m < 2305843009213693951)
  (e7 : n / 72057594037927936 % 256 = m / 72057594037927936 % 256) (e6 : n / 281474976710656 % 256 = m / 281474976710656 % 256) (e5 : n / 1099511627776 % 256 = m / 1099511627776 % 256)
  (e4 : n / 4294967296 % 256 = m / 4294967296 % 256) (e3 : n / 16777216 % 256 = m / 16777216 % 256) (e2 : n / 65536 % 256 = m / 65536 % 256) (e1 : n / 256 % 256 = m / 256 % 256) (e0 : n % 256 = m % 256) : n = m := by
  have dd (x : Int) (a b c : Int) (ha : 0 ≤ a) (hc : a * b = c) : x / a / b = x / c := by rw [Int.ediv_ediv_of_nonneg ha, hc]
  have k7 : n / 72057594037927936 = m / 72057594037927936 := by
    clear e6 e5 e4 e3 e2 e1 e0 dd; omega
  have k6 := dstep _ _ e6 (by rw [dd n _ _ 72057594037927936 (by decide) (by decide), dd m _ _ 72057594037927936 (by decide) (by decide)]; exact k7)
  have k5 := dstep _ _ e5 (by rw [dd n _ _ 281474976710656 (by decide) (by decide), dd m _ _ 281474976710656 (by decide) (by decide)]; exact k6)
  have k4 := dstep _ _ e4 (by rw [dd n _ _ 1099511627776 (by decide) (by decide), dd m _ _ 1099511627776 (by decide) (by decide)]; exact k5)
  have k3 := dstep _ _ e3 (by rw [dd n _ _ 4294967296 (by decide) (by decide), dd m _ _ 4294967296 (by decide) (by decide)]; exact k4)
  have k2 := dstep _ _ e2 (by rw [dd n _ _ 16777216 (by decide) (by decide), dd m _ _ 16777216 (by decide) (by decide)]; exact k3)
  have k1 := dstep _ _ e1 (by rw [dd n _ _ 65536 (by decide) (by decide), dd m _ _ 65536 (by decide) (by decide)]; exact k2)
  exact dstep _ _ e0 k1

theorem bigS_inj {n m : Int} (hn : isDigestB n = true) (hm : isDigestB m = true) (h : bigS n = bigS m) : n = m := by
  have rn := isDigestB_true.1 hn
  have rm := isDigestB_true.1 hm
  unfold bigS at h
  simp only [List.cons.injEq, and_true] at h
  obtain ⟨e7, e6, e5, e4, e3, e2, e1, e0⟩ := h
  have g : ∀ x y : Int, b8 x = b8 y → x % 256 = y % 256 := fun x y e => by rw [← b8_nat, ← b8_nat, e]
  exact big_inj0 n m (by omega) (by omega) (by omega) (by omega) (g _ _ e7) (g _ _ e6) (g _ _ e5) (g _ _ e4) (g _ _ e3) (g _ _ e2) (g _ _ e1) (g _ _ e0)
theorem msgS_inj : ∀ {xs ys : List Int}, (∀ x ∈ xs, isDigestB x = true) → (∀ x ∈ ys, isDigestB x = true) → msgS xs = msgS ys → xs = ys
  | [], [], _, _, _ => rfl
  | [], y :: ys, _, _, h => by have := congrArg List.length h; simp [msgS, bigS] at this
  | x :: xs, [], _, _, h => by have := congrArg List.length h; simp [msgS, bigS] at this
  | x :: xs, y :: ys, hx, hy, h => by
    have h' : bigS x ++ msgS xs = bigS y ++ msgS ys := h
    obtain ⟨h1, h2⟩ := List.append_inj h' rfl
    rw [bigS_inj (hx x (by simp)) (hy y (by simp)) h1, msgS_inj (fun a ha => hx a (by simp [ha])) (fun a ha => hy a (by simp [ha])) h2]
theorem msgF_cases (xs : List Int) : msgF xs = (0, 0) ∧ xs.length ≤ 64 ∧ (∀ x ∈ xs, isDigestB x = true) ∨ (msgF xs).1 ≠ 0 := by
  unfold msgF
  by_cases h : xs.length ≤ 64
  · rw [if_pos h]
    unfold digF
    cases hf : xs.findIdx? (fun x => !isDigestB x) with
    | none => exact .inl ⟨rfl, h, UpTo.of_none hf⟩
    | some i => exact .inr (by simp)
  · rw [if_neg h]
    exact .inr (by decide)
end Pl
end Go.Proofs.Ytldepnabkdpokaa
