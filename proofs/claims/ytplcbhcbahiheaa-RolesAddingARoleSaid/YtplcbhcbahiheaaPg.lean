/- Plain words of package roles: no program in sight. -/
import Derived.Test.YtplcbhcbahiheaaPb
namespace Go.Proofs.Ytplcbhcbahiheaa
open Go.RowKit
namespace Pl

structure Role where
  parent : Int
  pre : ByteArray
  keys : List Int
  need : Int

/-- s starts with p. -/
def startsB (s p : ByteArray) : Bool := decide (p.size ≤ s.size) && ((s.extract 0 p.size).toList == p.toList)
def emptyB (s : ByteArray) : Bool := s.toList.isEmpty

def Role.zero : Role := ⟨0, ⟨#[]⟩, [], 0⟩
/-- The error of the role i, which is r. -/
def parBad (r : Role) (i : Nat) : Bool := (decide ((i : Int) = 0) && r.parent != -1) || (decide (0 < (i : Int)) && !inB r.parent 0 ((i : Int) - 1))
def preBad (rs : List Role) (r : Role) (i : Nat) : Bool := (decide ((i : Int) = 0) && r.pre.size != 0) || (decide (60 < (r.pre.size : Int)) || (decide (0 < (i : Int)) && !startsB r.pre (rs.getD r.parent.toNat Role.zero).pre))
def roleC (rs : List Role) (i : Nat) : Int :=
  if parBad (rs.getD i Role.zero) i = true then 3
  else if preBad rs (rs.getD i Role.zero) i = true then 12
  else (thrF (rs.getD i Role.zero).keys (rs.getD i Role.zero).need).1

/-- The fault of the roles from place k on; f: how many are left. -/
def rolesAt (rs : List Role) : Nat → Nat → Int × Int
  | 0, _ => (0, 0)
  | f + 1, k => if roleC rs k = 0 then rolesAt rs f (k + 1) else (roleC rs k, (k : Int))
def rolesF (rs : List Role) : Int × Int := if inB (rs.length : Int) 1 12 = true then rolesAt rs rs.length 0 else (9, -1)
def pathF (rs : List Role) (p : ByteArray) : Int × Int := if (rolesF rs).1 = 0 then (if p.size = 0 ∨ 60 < p.size then (12, -2) else (0, 0)) else rolesF rs

theorem rolesAt_step (rs : List Role) (k : Nat) (hk : k < rs.length) : rolesAt rs (rs.length - k) k = if roleC rs k = 0 then rolesAt rs (rs.length - (k + 1)) (k + 1) else (roleC rs k, (k : Int)) := by
  have e : rs.length - k = (rs.length - (k + 1)) + 1 := by omega
  rw [e, rolesAt]
theorem rolesAt_end (rs : List Role) : rolesAt rs (rs.length - rs.length) rs.length = (0, 0) := by rw [Nat.sub_self]; rfl
theorem rolesAt_cases (rs : List Role) : ∀ f k, rolesAt rs f k = (0, 0) ∧ (∀ i, k ≤ i → i < k + f → roleC rs i = 0) ∨ (rolesAt rs f k).1 ≠ 0
  | 0, k => .inl ⟨rfl, fun i h1 h2 => by omega⟩
  | f + 1, k => by
    rw [rolesAt]
    by_cases h : roleC rs k = 0
    · rw [if_pos h]
      rcases rolesAt_cases rs f (k + 1) with ⟨e, g⟩ | g
      · refine .inl ⟨e, fun i h3 h4 => ?_⟩
        by_cases hi : i = k
        · subst hi; exact h
        · exact g i (by omega) (by omega)
      · exact .inr g
    · rw [if_neg h]; exact .inr h
theorem rolesF_cases (rs : List Role) : rolesF rs = (0, 0) ∧ 1 ≤ rs.length ∧ rs.length ≤ 12 ∧ (∀ i, i < rs.length → roleC rs i = 0) ∨ (rolesF rs).1 ≠ 0 := by
  unfold rolesF
  by_cases h : inB (rs.length : Int) 1 12 = true
  · rw [if_pos h]
    have h2 := inB_true.1 h
    rcases rolesAt_cases rs rs.length 0 with ⟨e, g⟩ | g
    · exact .inl ⟨e, by omega, by omega, fun i hi => g i (by omega) (by omega)⟩
    · exact .inr g
  · rw [if_neg h]; exact .inr (by decide)
theorem pathF_cases (rs : List Role) (p : ByteArray) : pathF rs p = (0, 0) ∧ rolesF rs = (0, 0) ∧ p.size ≠ 0 ∧ p.size ≤ 60 ∨ (pathF rs p).1 ≠ 0 := by
  unfold pathF
  rcases rolesF_cases rs with ⟨e, _⟩ | h
  · rw [e]
    simp only [if_true]
    by_cases h : p.size = 0 ∨ 60 < p.size
    · rw [if_pos h]; exact .inr (by decide)
    · rw [if_neg h]; exact .inl ⟨rfl, trivial, by omega, by omega⟩
  · rw [if_neg h]; exact .inr h

/-- Role k continues a chain whose last role is 'last'. -/
def hit (rs : List Role) (p : ByteArray) (k : Nat) (last : Int) : Bool := (rs.getD k Role.zero).parent == last && startsB p (rs.getD k Role.zero).pre
/-- The roles from place k on that continue a chain; n: how many places are left. -/
def scan (rs : List Role) (p : ByteArray) : Nat → Nat → Int → List Int
  | 0, _, _ => []
  | n + 1, k, last => if hit rs p k last = true then (k : Int) :: scan rs p n (k + 1) (k : Int) else scan rs p n (k + 1) last
def chain (rs : List Role) (p : ByteArray) : List Int := 0 :: scan rs p (rs.length - 1) 1 0
theorem scan_step (rs : List Role) (p : ByteArray) (k : Nat) (last : Int) (hk : k < rs.length) : scan rs p (rs.length - k) k last = if hit rs p k last = true then (k : Int) :: scan rs p (rs.length - (k + 1)) (k + 1) (k : Int) else scan rs p (rs.length - (k + 1)) (k + 1) last := by
  have e : rs.length - k = (rs.length - (k + 1)) + 1 := by omega
  rw [e, scan]
/-- What is known of a role without error. -/
theorem roleC_zero {rs : List Role} {i : Nat} (h : roleC rs i = 0) : (i = 0 → (rs.getD i Role.zero).parent = -1 ∧ (rs.getD i Role.zero).pre.size = 0) ∧ (0 < i → 0 ≤ (rs.getD i Role.zero).parent ∧ (rs.getD i Role.zero).parent < (i : Int) ∧ startsB (rs.getD i Role.zero).pre (rs.getD (rs.getD i Role.zero).parent.toNat Role.zero).pre = true) ∧ (rs.getD i Role.zero).pre.size ≤ 60 ∧ thrF (rs.getD i Role.zero).keys (rs.getD i Role.zero).need = (0, 0) := by
  unfold roleC at h
  split at h
  · cases h
  split at h
  · cases h
  rename_i h1 h2
  generalize rs.getD i Role.zero = r at *
  simp only [parBad, preBad, Bool.not_eq_true, Bool.or_eq_false_iff, Bool.and_eq_false_iff, decide_eq_false_iff_not, Bool.not_eq_false', bne_eq_false_iff_eq] at h1 h2
  obtain ⟨a1, a2⟩ := h1
  obtain ⟨b1, b2, b3⟩ := h2
  refine ⟨fun h0 => ⟨?_, ?_⟩, fun h0 => ?_, by omega, ?_⟩
  · rcases a1 with a1 | a1
    · omega
    · exact a1
  · rcases b1 with b1 | b1
    · omega
    · exact b1
  · rcases a2 with a2 | a2
    · omega
    · rcases b3 with b3 | b3
      · omega
      · have := inB_true.1 a2
        exact ⟨by omega, by omega, b3⟩
  · revert h
    unfold thrF
    rcases keysF_cases r.keys with ⟨e, _⟩ | e
    · rw [e]
      simp only [if_true]
      split <;> simp
    · rw [if_neg e]
      intro h; exact absurd h e
end Pl
end Go.Proofs.Ytplcbhcbahiheaa
