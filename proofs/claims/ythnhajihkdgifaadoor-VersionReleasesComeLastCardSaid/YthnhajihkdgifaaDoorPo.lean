/- Plain words of versions: no program in sight. -/
import Derived.Test.YthnhajihkdgifaaDoorPn
import Derived.Test.YthnhajihkdgifaaDoorPb
namespace Go.Proofs.YthnhajihkdgifaaDoor
namespace Pl

def digB (c : UInt8) : Bool := decide (48 ≤ c.toNat) && decide (c.toNat ≤ 57)
def idcB (c : UInt8) : Bool := digB c || (decide (97 ≤ c.toNat) && decide (c.toNat ≤ 122)) || (decide (65 ≤ c.toNat) && decide (c.toNat ≤ 90)) || c == 45
/-- Only digits (the empty text, too). -/
def digsB (s : List UInt8) : Bool := s.all digB
/-- An identifier of a pre-release. -/
def identB (s : List UInt8) : Bool := decide (1 ≤ s.length) && decide (s.length ≤ 8) && s.all idcB && !(digsB s && decide (1 < s.length) && s.head? == some 48)
/-- The number that digits denote. -/
def valL (s : List UInt8) : Int := s.foldl (fun n c => 10 * n + ((c.toNat : Int) - 48)) 0

/-- The program's order of identifiers. -/
def idKey (s : List UInt8) : Int × Int × List UInt8 := (if digsB s then 0 else 1, if digsB s then (s.length : Int) else 0, s)
def idCmp (a b : List UInt8) : Int := lexP sgn (lexP sgn Lib.compareBytes) (idKey a) (idKey b)
theorem idCmp_TO : TO idCmp (fun _ => True) :=
  (lexP_TO sgn_TO (lexP_TO sgn_TO compareBytes_TO)).pull idKey _ (fun _ _ => ⟨trivial, trivial, trivial⟩) (fun a b _ _ h => by
    have h := congrArg (fun x => x.2.2) h
    exact h)

theorem fold_val (s : List UInt8) (n : Int) : s.foldl (fun n c => 10 * n + ((c.toNat : Int) - 48)) n = n * 10 ^ s.length + valL s := by
  unfold valL
  induction s generalizing n with
  | nil => simp
  | cons c s ih =>
    rw [List.foldl_cons, List.foldl_cons, ih, ih (10 * 0 + _), List.length_cons, Int.pow_succ]
    simp only [Int.mul_zero, Int.zero_add]
    rw [Int.add_mul, ← Int.mul_assoc, Int.add_assoc]
    congr 1
    rw [Int.mul_comm 10 n, Int.mul_assoc, Int.mul_assoc, Int.mul_comm 10]
theorem valL_cons (c : UInt8) (s : List UInt8) : valL (c :: s) = ((c.toNat : Int) - 48) * 10 ^ s.length + valL s := by
  show (c :: s).foldl _ 0 = _
  rw [List.foldl_cons, fold_val]
  simp
theorem digB_iff {c : UInt8} : digB c = true ↔ 48 ≤ c.toNat ∧ c.toNat ≤ 57 := by simp [digB]
theorem valL_bounds : ∀ {s : List UInt8}, digsB s = true → 0 ≤ valL s ∧ valL s < 10 ^ s.length
  | [], _ => by simp [valL]
  | c :: s, h => by
    simp only [digsB, List.all_cons, Bool.and_eq_true] at h
    have h1 := digB_iff.1 h.1
    have h2 := valL_bounds (s := s) h.2
    rw [valL_cons, List.length_cons, Int.pow_succ]
    have h3 : (0 : Int) < 10 ^ s.length := Int.pow_pos (by omega)
    have h4 : 0 ≤ ((c.toNat : Int) - 48) * 10 ^ s.length := Int.mul_nonneg (by omega) (by omega)
    have h5 : ((c.toNat : Int) - 48) * 10 ^ s.length ≤ 9 * 10 ^ s.length := Int.mul_le_mul_of_nonneg_right (by omega) (by omega)
    omega
/-- Numbers of the same length are ordered as their digits are. -/
theorem val_same : ∀ {a b : List UInt8}, digsB a = true → digsB b = true → a.length = b.length → sgn (valL a) (valL b) = Lib.compareBytes a b
  | [], [], _, _, _ => rfl
  | [], _ :: _, _, _, h => by simp at h
  | _ :: _, [], _, _, h => by simp at h
  | x :: a, y :: b, ha, hb, hl => by
    simp only [digsB, List.all_cons, Bool.and_eq_true] at ha hb
    have hx := digB_iff.1 ha.1
    have hy := digB_iff.1 hb.1
    have hl : a.length = b.length := by simpa using hl
    have ih := val_same (a := a) (b := b) ha.2 hb.2 hl
    have ba := valL_bounds (s := a) ha.2
    have bb := valL_bounds (s := b) hb.2
    rw [valL_cons, valL_cons, hl, Lib.compareBytes, ← ih]
    rw [hl] at ba
    generalize hA : valL a = A at *
    generalize hB : valL b = B at *
    generalize hE : (10 : Int) ^ b.length = E at *
    simp only [UInt8.lt_iff_toNat_lt]
    by_cases h1 : x.toNat < y.toNat
    · rw [if_pos h1]
      have h5 : ((x.toNat : Int) - 48 + 1) * E ≤ ((y.toNat : Int) - 48) * E := Int.mul_le_mul_of_nonneg_right (by omega) (by omega)
      rw [Int.add_mul] at h5
      unfold sgn
      rw [if_pos (by omega)]
    · rw [if_neg h1]
      by_cases h2 : y.toNat < x.toNat
      · rw [if_pos h2]
        have h5 : ((y.toNat : Int) - 48 + 1) * E ≤ ((x.toNat : Int) - 48) * E := Int.mul_le_mul_of_nonneg_right (by omega) (by omega)
        rw [Int.add_mul] at h5
        unfold sgn
        rw [if_neg (by omega), if_pos (by omega)]
      · rw [if_neg h2, show (x.toNat : Int) = (y.toNat : Int) by omega]
        unfold sgn
        repeat' split <;> omega
/-- A number with more digits is greater. -/
theorem val_longer {a b : List UInt8} (ha : digsB a = true) (hb : digsB b = true) (hb0 : b.head? ≠ some 48) (hl : a.length < b.length) : valL a < valL b := by
  cases b with
  | nil => simp at hl
  | cons y b =>
    simp only [digsB, List.all_cons, Bool.and_eq_true] at hb
    have hy := digB_iff.1 hb.1
    have hy0 : y.toNat ≠ 48 := fun h => hb0 (by simp [← UInt8.toNat_inj, h])
    have ba := valL_bounds (s := a) ha
    have bb := valL_bounds (s := b) hb.2
    rw [valL_cons]
    have h1 : (10 : Int) ^ a.length ≤ 10 ^ b.length := by
      have := Nat.pow_le_pow_right (n := 10) (by omega) (show a.length ≤ b.length by simp at hl; omega)
      exact_mod_cast this
    have h5 : 1 * (10 : Int) ^ b.length ≤ ((y.toNat : Int) - 48) * 10 ^ b.length := Int.mul_le_mul_of_nonneg_right (by omega) (by omega)
    omega
/-- The reference's order of identifiers. -/
def idRef (a b : List UInt8) : Int :=
  if digsB a && digsB b then sgn (valL a) (valL b) else if digsB a then -1 else if digsB b then 1 else Lib.compareBytes a b
theorem identB_iff {s : List UInt8} : identB s = true ↔ 1 ≤ s.length ∧ s.length ≤ 8 ∧ s.all idcB = true ∧ (digsB s = true → 1 < s.length → s.head? ≠ some 48) := by
  unfold identB
  simp only [Bool.and_eq_true, decide_eq_true_eq, Bool.not_eq_true', Bool.and_eq_false_iff, decide_eq_false_iff_not, beq_eq_false_iff_ne, and_assoc]
  refine and_congr_right fun _ => and_congr_right fun _ => and_congr_right fun _ => ⟨fun h h1 h2 => ?_, fun h => ?_⟩
  · rcases h with (h | h) | h
    · rw [h1] at h; cases h
    · exact absurd h2 h
    · exact h
  · cases h1 : digsB s
    · exact .inl (.inl rfl)
    · by_cases h2 : 1 < s.length
      · exact .inr (h h1 h2)
      · exact .inl (.inr h2)
theorem idRef_eq {a b : List UInt8} (ha : identB a = true) (hb : identB b = true) : idRef a b = idCmp a b := by
  obtain ⟨a1, -, -, a2⟩ := identB_iff.1 ha
  obtain ⟨b1, -, -, b2⟩ := identB_iff.1 hb
  unfold idRef idCmp lexP idKey
  cases hA : digsB a <;> cases hB : digsB b
  · simp [sgn]
  · simp [sgn]
  · simp [sgn]
  · simp only [Bool.and_self, if_true]
    rw [if_pos (by simp [sgn])]
    rcases Nat.lt_trichotomy a.length b.length with h | h | h
    · have hv := val_longer hA hB (b2 hB (by omega)) h
      have e : sgn (a.length : Int) (b.length : Int) = -1 := by unfold sgn; rw [if_pos (by omega)]
      rw [e, if_neg (by decide)]
      unfold sgn; rw [if_pos hv]
    · rw [val_same hA hB h, h, if_pos (by simp [sgn])]
    · have hv := val_longer hB hA (a2 hA (by omega)) h
      have e : sgn (a.length : Int) (b.length : Int) = 1 := by unfold sgn; rw [if_neg (by omega), if_pos (by omega)]
      rw [e, if_neg (by decide)]
      unfold sgn; rw [if_neg (by omega), if_pos hv]
end Pl
end Go.Proofs.YthnhajihkdgifaaDoor
