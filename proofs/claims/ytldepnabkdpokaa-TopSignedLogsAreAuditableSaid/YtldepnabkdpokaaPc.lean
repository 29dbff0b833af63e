/- Plain laws of package threshold: no program in sight. -/
import Derived.Test.YtldepnabkdpokaaMg
namespace Go.Proofs.Ytldepnabkdpokaa
open Go.RowKit
namespace Pl

theorem hasSigned_append (l : List UInt8) (a b : List (Int × Int)) (k : Int) : hasSigned l (a ++ b) k = (hasSigned l a k || hasSigned l b k) := by simp [hasSigned]
theorem signers_mono {xs : List Int} {l : List UInt8} {a b : List (Int × Int)} (h : ∀ k, hasSigned l a k = true → hasSigned l b k = true) : (signers xs l a).length ≤ (signers xs l b).length := by
  unfold signers
  rw [← List.countP_eq_length_filter, ← List.countP_eq_length_filter]
  exact List.countP_mono_left fun x _ => h x
theorem accF_zero {xs : List Int} {need : Int} {n : Nat} {sg : List (Int × Int)} : (accF xs need n sg).1 = 0 ↔ (thrF xs need).1 = 0 ∧ (sigF xs n sg).1 = 0 := by
  unfold accF
  by_cases h : (thrF xs need).1 = 0
  · simp [h]
  · simp [h]
theorem accB_true {xs : List Int} {need : Int} {l : List UInt8} {sg : List (Int × Int)} : accB xs need l sg = true ↔ (accF xs need l.length sg).1 = 0 ∧ need ≤ ((signers xs l sg).length : Int) := by simp [accB]
theorem thrF_zero {xs : List Int} {need : Int} : (thrF xs need).1 = 0 ↔ (keysF xs).1 = 0 ∧ 1 ≤ need ∧ need ≤ (xs.length : Int) := by
  unfold thrF
  by_cases h : (keysF xs).1 = 0
  · simp only [h, if_true]
    by_cases h2 : inB need 1 (xs.length : Int) = true
    · rw [if_pos h2]; simp [inB_true.1 h2]
    · rw [if_neg h2]
      simp only [true_and]
      exact ⟨fun h => absurd h (by decide), fun h => absurd (inB_true.2 h) h2⟩
  · simp [h]

theorem acc_more {xs : List Int} {need : Int} {l : List UInt8} {a b : List (Int × Int)} (h : accB xs need l a = true) (hf : (accF xs need l.length (a ++ b)).1 = 0) : accB xs need l (a ++ b) = true := by
  rw [accB_true] at *
  refine ⟨hf, ?_⟩
  have := signers_mono (xs := xs) (l := l) (a := a) (b := a ++ b) fun k hk => by rw [hasSigned_append, hk]; rfl
  omega
theorem acc_less {xs : List Int} {need less : Int} {l : List UInt8} {a : List (Int × Int)} (h : accB xs need l a = true) (h1 : 1 ≤ less) (h2 : less ≤ need) : (accF xs less l.length a).1 = 0 ∧ accB xs less l a = true := by
  have h := accB_true.1 h
  have h0 := accF_zero.1 h.1
  have ht := thrF_zero.1 h0.1
  have h3 : (accF xs less l.length a).1 = 0 := accF_zero.2 ⟨thrF_zero.2 ⟨ht.1, h1, by omega⟩, h0.2⟩
  exact ⟨h3, accB_true.2 ⟨h3, by omega⟩⟩

theorem sigF_zero {xs : List Int} {n : Nat} {sg : List (Int × Int)} : (sigF xs n sg).1 = 0 ↔ (keysF xs).1 = 0 ∧ n ≤ 4096 ∧ sg.length ≤ 24 ∧ ∀ s ∈ sg, sigB s = true := by
  constructor
  · intro h
    rcases sigF_cases xs n sg with ⟨_, h1, _, h2, h3, h4⟩ | h'
    · exact ⟨by rw [h1], h2, h3, h4⟩
    · exact absurd h h'
  · rintro ⟨h1, h2, h3, h4⟩
    unfold sigF
    rw [if_pos h1, if_pos h2, if_pos h3]
    have : sg.findIdx? (fun s => !sigB s) = none := by
      rw [List.findIdx?_eq_none_iff]
      intro x hx
      simp [h4 x hx]
    rw [this]

/-- Two lists of signatures with the same elements, both short. -/
theorem same_signers {xs : List Int} {l : List UInt8} {a b : List (Int × Int)} (ha : a.length ≤ 24) (hb : b.length ≤ 24) (h : ∀ s, s ∈ a ↔ s ∈ b) :
    ((sigF xs l.length a).1 = 0 ↔ (sigF xs l.length b).1 = 0) ∧ signersV xs l a = signersV xs l b := by
  have h1 : (sigF xs l.length a).1 = 0 ↔ (sigF xs l.length b).1 = 0 := by
    rw [sigF_zero, sigF_zero]
    simp only [ha, hb, h]
  refine ⟨h1, ?_⟩
  have h2 : hasSigned l a = hasSigned l b := by
    funext k
    rw [Bool.eq_iff_iff]
    simp only [hasSigned, List.any_eq_true, h]
  unfold signersV signers
  rw [h2]
  by_cases h3 : (sigF xs l.length a).1 = 0
  · rw [if_pos h3, if_pos (h1.1 h3)]
  · rw [if_neg h3, if_neg fun h4 => h3 (h1.2 h4)]

/-- The signatures of the first n keys. -/
def signAll (l : List UInt8) (ks : List Int) : List (Int × Int) := ks.map fun k => (k, signS k l)
theorem Keys.pairwise {xs : List Int} (h : Keys xs) : xs.Pairwise (· < ·) := by
  rw [List.pairwise_iff_getElem]
  have step : ∀ d i, i + d + 1 < xs.length → xs.getD i 0 < xs.getD (i + d + 1) 0 := by
    intro d
    induction d with
    | zero => intro i hi; exact h.inc (i + 1) (by omega) hi
    | succ d ih =>
      intro i hi
      have h1 := ih i (by omega)
      have h2 := h.inc (i + (d + 1) + 1) (by omega) hi
      rw [show i + (d + 1) + 1 - 1 = i + d + 1 by omega] at h2
      omega
  intro i j hi hj hij
  have := step (j - i - 1) i (by omega)
  rw [show i + (j - i - 1) + 1 = j by omega] at this
  simpa [List.getD_eq_getElem?_getD, hi, hj] using this
theorem hasSigned_signAll (l : List UInt8) (ks : List Int) (k : Int) : hasSigned l (signAll l ks) k = decide (k ∈ ks) := by
  rw [Bool.eq_iff_iff]
  simp only [hasSigned, signAll, List.any_map, List.any_eq_true, Function.comp, Bool.and_eq_true, beq_iff_eq, decide_eq_true_eq]
  constructor
  · rintro ⟨x, hx, rfl, _⟩; exact hx
  · intro h; exact ⟨k, h, rfl, rfl⟩
theorem filter_take {xs : List Int} (h : xs.Pairwise (· < ·)) (n : Nat) : (xs.filter fun k => decide (k ∈ xs.take n)).length = min n xs.length := by
  have e : xs.filter (fun k => decide (k ∈ xs.take n)) = xs.take n := by
    conv => lhs; rw [← List.take_append_drop n xs]
    rw [List.filter_append]
    have h1 : (xs.take n).filter (fun k => decide (k ∈ xs.take n)) = xs.take n := List.filter_eq_self.2 (by simp)
    have h2 : (xs.drop n).filter (fun k => decide (k ∈ xs.take n)) = [] := by
      rw [List.filter_eq_nil_iff]
      intro x hx hx2
      have hp := h
      rw [← List.take_append_drop n xs, List.pairwise_append] at hp
      have := hp.2.2 x (by simpa using hx2) x hx
      omega
    rw [List.take_append_drop, h1, h2, List.append_nil]
  rw [e, List.length_take]
theorem sufficient {xs : List Int} {need : Int} {l : List UInt8} {n : Nat} (ht : (thrF xs need).1 = 0) (hl : l.length ≤ 4096) (hn : n ≤ xs.length) (hd : ∀ k, isKeyB k = true → isDigestB (signS k l) = true) :
    (accF xs need l.length (signAll l (xs.take n))).1 = 0 ∧ accB xs need l (signAll l (xs.take n)) = decide ((n : Int) ≥ need) := by
  have hk := thrF_zero.1 ht
  have hK : Keys xs := by
    rcases keysF_cases xs with ⟨_, hK⟩ | h
    · exact hK
    · exact absurd hk.1 h
  have h12 := hK.len
  have h1 : (accF xs need l.length (signAll l (xs.take n))).1 = 0 := by
    rw [accF_zero, sigF_zero]
    refine ⟨ht, hk.1, hl, by simp [signAll]; omega, ?_⟩
    intro s hs
    simp only [signAll, List.mem_map] at hs
    obtain ⟨k, hk', rfl⟩ := hs
    have := hK.mem (List.mem_of_mem_take hk')
    simp [sigB, this, hd k this]
  refine ⟨h1, ?_⟩
  rw [Bool.eq_iff_iff, accB_true]
  have e : (signers xs l (signAll l (xs.take n))).length = n := by
    unfold signers
    rw [show hasSigned l (signAll l (xs.take n)) = fun k => decide (k ∈ xs.take n) from funext fun k => hasSigned_signAll l _ k, filter_take hK.pairwise]
    omega
  rw [e]
  simp [h1]
theorem signersV_len (xs : List Int) (l : List UInt8) (sg : List (Int × Int)) : (signersV xs l sg).length ≤ xs.length := by
  unfold signersV
  split
  · unfold signers; exact List.length_filter_le _ _
  · simp
end Pl
end Go.Proofs.Ytldepnabkdpokaa
