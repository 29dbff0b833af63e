/- Plain facts on pushes: certificates that differ in their time have different signatures. -/
import Derived.Test.YtkhkijpkgogncaaUm
namespace Go.Proofs.Ytkhkijpkgogncaa
open Go.RowKit

namespace Pl
theorem small_zero (d q m : Int) (hm : m = 2305843009213693951) (h1 : -2305843009213693951 < d) (h2 : d < 2305843009213693951) (h : d = m * q) : d = 0 := by
  subst hm
  by_cases h3 : q ≤ -1
  · omega
  · by_cases h4 : 1 ≤ q
    · omega
    · have : q = 0 := by omega
      subst this
      omega
/-- A factor that has an inverse can be left out. -/
theorem cancel (k u d m : Int) (hm : m = 2305843009213693951) (hu : k * u % m = 1) (h1 : -2305843009213693951 < d) (h2 : d < 2305843009213693951) (h : m ∣ d * k) : d = 0 := by
  have h3 : m ∣ d * (k * u) := by rw [← Int.mul_assoc]; exact Int.dvd_mul_of_dvd_left h
  have h4 : (d * (k * u)) % m = d % m := by rw [Int.mul_emod, hu, Int.mul_one, Int.emod_emod]
  rw [Int.emod_eq_zero_of_dvd h3] at h4
  obtain ⟨q, hq⟩ := Int.dvd_of_emod_eq_zero h4.symm
  exact small_zero d q m hm h1 h2 hq
theorem emod_dvd {a b m : Int} (h : a % m = b % m) : m ∣ a - b := Int.dvd_of_emod_eq_zero (Int.emod_eq_emod_iff_emod_sub_eq_zero.1 h)
theorem stepS_inj {a b x : Int} (ha : 0 ≤ a ∧ a < M) (hb : 0 ≤ b ∧ b < M) (h : stepS a x = stepS b x) : a = b := by
  unfold stepS at h
  have h2 := emod_dvd h
  rw [show a * 257 + x + 1 - (b * 257 + x + 1) = (a - b) * 257 by omega] at h2
  rw [M_eq] at ha hb
  have := cancel 257 1327878464449909357 (a - b) M rfl (by decide) (by omega) (by omega) h2
  omega
theorem fold_inj (l : List UInt8) : ∀ {a b : Int}, 0 ≤ a ∧ a < M → 0 ≤ b ∧ b < M → l.foldl (fun h b => stepS h (b.toNat : Int)) a = l.foldl (fun h b => stepS h (b.toNat : Int)) b → a = b := by
  induction l with
  | nil => intro a b _ _ h; exact h
  | cons x l ih => intro a b ha hb h; exact stepS_inj ha hb (ih (stepS_range _ _) (stepS_range _ _) h)
theorem pairS_inj {k a b : Int} (ha : 0 ≤ a ∧ a < M) (hb : 0 ≤ b ∧ b < M) (h : pairS k a = pairS k b) : a = b := by
  unfold pairS at h
  have h2 := emod_dvd h
  rw [show k * 1000003 + a * 31 + 7 - (k * 1000003 + b * 31 + 7) = (a - b) * 31 by omega] at h2
  rw [M_eq] at ha hb
  have := cancel 31 2231460976658413501 (a - b) M rfl (by decide) (by omega) (by omega) h2
  omega
theorem step3 (h x2 x1 x0 : Int) : stepS (stepS (stepS h x2) x1) x0 = (h * 16974593 + x2 * 66049 + x1 * 257 + x0 + 66307) % M := by
  unfold stepS
  rw [Int.add_assoc, Int.add_emod, Int.mul_emod, Int.emod_emod, ← Int.mul_emod, ← Int.add_emod]
  rw [Int.add_assoc (_ * 257) x1 1, show ((h * 257 + x2 + 1) % M * 257 + (x1 + 1)) * 257 + (x0 + 1) = (h * 257 + x2 + 1) % M * 66049 + ((x1 + 1) * 257 + (x0 + 1)) by omega]
  rw [Int.add_emod, Int.mul_emod, Int.emod_emod, ← Int.mul_emod, ← Int.add_emod]
  congr 1
  omega
theorem time_bytes {h t u : Int} (ht : 0 ≤ t ∧ t ≤ 100000) (hu : 0 ≤ u ∧ u ≤ 100000) (e : (bigS t).foldl (fun h b => stepS h (b.toNat : Int)) h = (bigS u).foldl (fun h b => stepS h (b.toNat : Int)) h) : t = u := by
  unfold bigS at e
  simp only [List.foldl_cons, List.foldl_nil, b8_nat] at e
  rw [show t / 72057594037927936 = 0 by omega, show t / 281474976710656 = 0 by omega, show t / 1099511627776 = 0 by omega, show t / 4294967296 = 0 by omega, show t / 16777216 = 0 by omega] at e
  rw [show u / 72057594037927936 = 0 by omega, show u / 281474976710656 = 0 by omega, show u / 1099511627776 = 0 by omega, show u / 4294967296 = 0 by omega, show u / 16777216 = 0 by omega] at e
  generalize stepS (stepS (stepS (stepS (stepS h (0 % 256)) (0 % 256)) (0 % 256)) (0 % 256)) (0 % 256) = g at e
  rw [step3, step3] at e
  have h2 := emod_dvd e
  generalize ha2 : t / 65536 % 256 = a2 at *
  generalize ha1 : t / 256 % 256 = a1 at *
  generalize ha0 : t % 256 = a0 at *
  generalize hb2 : u / 65536 % 256 = b2 at *
  generalize hb1 : u / 256 % 256 = b1 at *
  generalize hb0 : u % 256 = b0 at *
  obtain ⟨q, hq⟩ := h2
  have hz := small_zero _ q M rfl (by omega) (by omega) hq
  omega
/-- The signatures of two certificates that differ in their time alone. -/
theorem certS_time {n t u k : Int} {rf : ByteArray} {o nw s : Int} (ht : isTimeB t = true) (hu : isTimeB u = true) : (certS ⟨n, t, k, rf, o, nw, s⟩ = certS ⟨n, u, k, rf, o, nw, s⟩) ↔ t = u := by
  refine ⟨fun h => ?_, fun h => by rw [h]⟩
  have h1 := pairS_inj (ofS_range _) (ofS_range _) h
  simp only [certNs, msgS, List.flatMap_cons, List.flatMap_nil, List.append_assoc, ofS, List.foldl_append] at h1
  have h2 := h1
  have h3 := fold_inj _ (foldl_range _ _ (foldl_range _ _ (foldl_range _ _ (foldl_range _ _ (foldl_range _ _ (foldl_range _ 1 (by decide))))))) (foldl_range _ _ (foldl_range _ _ (foldl_range _ _ (foldl_range _ _ (foldl_range _ _ (foldl_range _ 1 (by decide))))))) h2
  have h4 := fold_inj _ (foldl_range _ _ (foldl_range _ _ (foldl_range _ _ (foldl_range _ _ (foldl_range _ 1 (by decide)))))) (foldl_range _ _ (foldl_range _ _ (foldl_range _ _ (foldl_range _ _ (foldl_range _ 1 (by decide)))))) h3
  have h5 := fold_inj _ (foldl_range _ _ (foldl_range _ _ (foldl_range _ _ (foldl_range _ 1 (by decide))))) (foldl_range _ _ (foldl_range _ _ (foldl_range _ _ (foldl_range _ 1 (by decide))))) h4
  have h6 := fold_inj _ (foldl_range _ _ (foldl_range _ _ (foldl_range _ 1 (by decide)))) (foldl_range _ _ (foldl_range _ _ (foldl_range _ 1 (by decide)))) h5
  have h7 := fold_inj _ (foldl_range _ _ (foldl_range _ 1 (by decide))) (foldl_range _ _ (foldl_range _ 1 (by decide))) h6
  exact time_bytes (isTimeB_true.1 ht) (isTimeB_true.1 hu) h7
end Pl
end Go.Proofs.Ytkhkijpkgogncaa
