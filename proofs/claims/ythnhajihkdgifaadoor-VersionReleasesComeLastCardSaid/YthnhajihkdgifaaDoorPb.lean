/- Plain words of package threshold: no program in sight. -/
import Derived.Test.YthnhajihkdgifaaDoorMg
namespace Go.Proofs.YthnhajihkdgifaaDoor
open Go.RowKit
namespace Pl

/-- The fault of a key list from place k on; f: how many places are left. -/
def keyAt (xs : List Int) : Nat → Nat → Int × Int
  | 0, _ => (0, 0)
  | f + 1, k => if isKeyB (xs.getD k 0) = true then (if 0 < k ∧ xs.getD k 0 ≤ xs.getD (k - 1) 0 then (5, (k : Int)) else keyAt xs f (k + 1)) else (3, (k : Int))
def keysF (xs : List Int) : Int × Int := if xs.length ≤ 12 then keyAt xs xs.length 0 else (2, -1)

theorem keyAt_step (xs : List Int) (k : Nat) (hk : k < xs.length) : keyAt xs (xs.length - k) k = if isKeyB xs[k] = true then (if 0 < k ∧ xs[k] ≤ xs.getD (k - 1) 0 then (5, (k : Int)) else keyAt xs (xs.length - (k + 1)) (k + 1)) else (3, (k : Int)) := by
  have e : xs.length - k = (xs.length - (k + 1)) + 1 := by omega
  rw [e, keyAt, List.getD_eq_getElem?_getD, List.getElem?_eq_getElem hk]
  rfl
theorem keyAt_end (xs : List Int) : keyAt xs (xs.length - xs.length) xs.length = (0, 0) := by rw [Nat.sub_self]; rfl

theorem keyAt_cases (xs : List Int) : ∀ f k, keyAt xs f k = (0, 0) ∧ (∀ i, k ≤ i → i < k + f → isKeyB (xs.getD i 0) = true ∧ (0 < i → xs.getD (i - 1) 0 < xs.getD i 0)) ∨ (keyAt xs f k).1 ≠ 0
  | 0, k => .inl ⟨rfl, fun i h1 h2 => by omega⟩
  | f + 1, k => by
    rw [keyAt]
    by_cases h : isKeyB (xs.getD k 0) = true
    · rw [if_pos h]
      by_cases h2 : 0 < k ∧ xs.getD k 0 ≤ xs.getD (k - 1) 0
      · rw [if_pos h2]; exact .inr (by simp)
      · rw [if_neg h2]
        rcases keyAt_cases xs f (k + 1) with ⟨e, g⟩ | g
        · refine .inl ⟨e, fun i h3 h4 => ?_⟩
          by_cases hi : i = k
          · subst hi
            exact ⟨h, fun h5 => by
              rcases Int.lt_or_le (xs.getD (i - 1) 0) (xs.getD i 0) with h6 | h6
              · exact h6
              · exact absurd ⟨h5, h6⟩ h2⟩
          · exact g i (by omega) (by omega)
        · exact .inr g
    · rw [if_neg h]; exact .inr (by simp)

/-- A key list without fault. -/
structure Keys (xs : List Int) : Prop where
  len : xs.length ≤ 12
  key : ∀ i, i < xs.length → isKeyB (xs.getD i 0) = true
  inc : ∀ i, 0 < i → i < xs.length → xs.getD (i - 1) 0 < xs.getD i 0
theorem keysF_cases (xs : List Int) : keysF xs = (0, 0) ∧ Keys xs ∨ (keysF xs).1 ≠ 0 := by
  unfold keysF
  by_cases h : xs.length ≤ 12
  · rw [if_pos h]
    rcases keyAt_cases xs xs.length 0 with ⟨e, g⟩ | g
    · exact .inl ⟨e, h, fun i hi => (g i (by omega) (by omega)).1, fun i h0 hi => (g i (by omega) (by omega)).2 h0⟩
    · exact .inr g
  · rw [if_neg h]; exact .inr (by decide)
theorem Keys.mem {xs : List Int} (h : Keys xs) {x : Int} (hx : x ∈ xs) : isKeyB x = true := by
  obtain ⟨i, hi, rfl⟩ := List.mem_iff_getElem.1 hx
  have := h.key i hi
  rwa [List.getD_eq_getElem?_getD, List.getElem?_eq_getElem hi] at this

def thrF (xs : List Int) (need : Int) : Int × Int := if (keysF xs).1 = 0 then (if inB need 1 (xs.length : Int) = true then (0, 0) else (3, -1)) else keysF xs

def sigB (s : Int × Int) : Bool := isKeyB s.1 && isDigestB s.2
/-- The fault of keys, n bytes of data, and signatures. -/
def sigF (xs : List Int) (n : Nat) (sg : List (Int × Int)) : Int × Int :=
  if (keysF xs).1 = 0 then
    if n ≤ 4096 then
      if sg.length ≤ 24 then
        match sg.findIdx? (fun s => !sigB s) with
        | some i => (3, (xs.length : Int) + (i : Int))
        | none => (0, 0)
      else (2, -3)
    else (2, -2)
  else keysF xs
/-- Has the key k signed? -/
def hasSigned (l : List UInt8) (sg : List (Int × Int)) (k : Int) : Bool := sg.any fun s => s.1 == k && s.2 == signS k l
def signers (xs : List Int) (l : List UInt8) (sg : List (Int × Int)) : List Int := xs.filter (hasSigned l sg)
def signersV (xs : List Int) (l : List UInt8) (sg : List (Int × Int)) : List Int := if (sigF xs l.length sg).1 = 0 then signers xs l sg else []
/-- What Accept answers. -/
def accF (xs : List Int) (need : Int) (n : Nat) (sg : List (Int × Int)) : Int × Int := if (thrF xs need).1 = 0 then sigF xs n sg else thrF xs need
def accB (xs : List Int) (need : Int) (l : List UInt8) (sg : List (Int × Int)) : Bool := decide ((accF xs need l.length sg).1 = 0) && decide (need ≤ ((signers xs l sg).length : Int))

theorem sigF_cases (xs : List Int) (n : Nat) (sg : List (Int × Int)) : sigF xs n sg = (0, 0) ∧ keysF xs = (0, 0) ∧ Keys xs ∧ n ≤ 4096 ∧ sg.length ≤ 24 ∧ (∀ s ∈ sg, sigB s = true) ∨ (sigF xs n sg).1 ≠ 0 := by
  unfold sigF
  rcases keysF_cases xs with ⟨e, hk⟩ | h
  · rw [e]
    simp only [if_true]
    by_cases hn : n ≤ 4096
    · rw [if_pos hn]
      by_cases hs : sg.length ≤ 24
      · rw [if_pos hs]
        cases hf : sg.findIdx? (fun s => !sigB s) with
        | none => exact .inl ⟨rfl, trivial, hk, hn, hs, UpTo.of_none hf⟩
        | some i => exact .inr (by simp)
      · rw [if_neg hs]; exact .inr (by decide)
    · rw [if_neg hn]; exact .inr (by decide)
  · rw [if_neg h]; exact .inr h
end Pl
end Go.Proofs.YthnhajihkdgifaaDoor
