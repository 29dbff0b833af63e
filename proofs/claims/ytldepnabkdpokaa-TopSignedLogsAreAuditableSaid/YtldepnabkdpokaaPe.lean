/- Plain laws of inclusion and consistency proofs: no program in sight. -/
import Derived.Test.YtldepnabkdpokaaPd
namespace Go.Proofs.Ytldepnabkdpokaa
open Go.RowKit
namespace Pl

/-! ### Roots and proofs of lists of digests -/
def rootS (l : List Int) : Int := rootF pairS 0 64 l
theorem rootF_fuel {α : Type} (pr : α → α → α) (z : α) : ∀ (f g : Nat) (l : List α), l.length ≤ 64 → l.length ≤ f → l.length ≤ g → rootF pr z f l = rootF pr z g l
  | 0, 0, _, _, _, _ => rfl
  | 0, g + 1, [], _, _, _ => rfl
  | 0, _ + 1, _ :: _, _, h, _ => by simp at h
  | f + 1, 0, [], _, _, _ => rfl
  | _ + 1, 0, _ :: _, _, _, h => by simp at h
  | f + 1, g + 1, [], _, _, _ => rfl
  | f + 1, g + 1, [x], _, _, _ => rfl
  | f + 1, g + 1, x :: y :: l, h0, h1, h2 => by
    simp only [rootF]
    have h3 := splitN_lt (n := l.length + 2) (by omega) (by simpa using h0)
    simp only [List.length_cons] at h0 h1 h2
    have e1 : ((x :: y :: l).take (splitN (l.length + 2))).length ≤ l.length + 1 := by simp only [List.length_take, List.length_cons]; omega
    have e2 : ((x :: y :: l).drop (splitN (l.length + 2))).length ≤ l.length + 1 := by simp only [List.length_drop, List.length_cons]; omega
    rw [rootF_fuel pr z f g _ (by omega) (by omega) (by omega), rootF_fuel pr z f g _ (by omega) (by omega) (by omega)]
theorem rootS_nil : rootS [] = 0 := rfl
theorem rootS_one (x : Int) : rootS [x] = x := rfl
theorem rootS_step (l : List Int) (h : 2 ≤ l.length) (h2 : l.length ≤ 64) : rootS l = pairS (rootS (l.take (splitN l.length))) (rootS (l.drop (splitN l.length))) := by
  match l, h with
  | x :: y :: l, h =>
    have h3 := splitN_lt (n := l.length + 2) (by omega) (by simpa using h2)
    have e1 : ((x :: y :: l).take (splitN (l.length + 2))).length ≤ l.length + 1 := by simp only [List.length_take, List.length_cons]; omega
    have e2 : ((x :: y :: l).drop (splitN (l.length + 2))).length ≤ l.length + 1 := by simp only [List.length_drop, List.length_cons]; omega
    simp only [List.length_cons] at h2
    show pairS (rootF pairS 0 63 _) (rootF pairS 0 63 _) = _
    unfold rootS
    rw [rootF_fuel pairS 0 63 64 _ (by omega) (by omega) (by omega), rootF_fuel pairS 0 63 64 ((x :: y :: l).drop _) (by omega) (by omega) (by omega)]
    rfl
def logRootS (l : List Int) : Int := logRootF pairS 0 l
theorem logRootS_eq (l : List Int) (h : l.length ≤ 64) : logRootS l = rootS l := by
  unfold logRootS rootS
  exact roots_same pairS 0 l h

/-- The inclusion proof. -/
def proveF : Nat → List Int → Nat → List Int
  | 0, _, _ => []
  | f + 1, l, i => if l.length ≤ 1 then [] else if i < splitN l.length then proveF f (l.take (splitN l.length)) i ++ [rootS (l.drop (splitN l.length))] else proveF f (l.drop (splitN l.length)) (i - splitN l.length) ++ [rootS (l.take (splitN l.length))]
def proveS (l : List Int) (i : Nat) : List Int := proveF 64 l i
theorem proveF_fuel : ∀ (f g : Nat) (l : List Int) (i : Nat), l.length ≤ 64 → l.length ≤ f → l.length ≤ g → proveF f l i = proveF g l i
  | 0, 0, _, _, _, _, _ => rfl
  | 0, g + 1, l, i, _, h, _ => by
    show [] = _
    rw [proveF, if_pos (by omega)]
  | f + 1, 0, l, i, _, _, h => by
    show _ = []
    rw [proveF, if_pos (by omega)]
  | f + 1, g + 1, l, i, h0, h1, h2 => by
    rw [proveF, proveF]
    by_cases h : l.length ≤ 1
    · rw [if_pos h, if_pos h]
    · rw [if_neg h, if_neg h]
      have h3 := splitN_lt (n := l.length) (by omega) h0
      have e1 : (l.take (splitN l.length)).length = splitN l.length := by rw [List.length_take]; omega
      have e2 : (l.drop (splitN l.length)).length = l.length - splitN l.length := by rw [List.length_drop]
      rw [proveF_fuel f g (l.take _) _ (by omega) (by omega) (by omega), proveF_fuel f g (l.drop _) _ (by omega) (by omega) (by omega)]
theorem proveS_one (l : List Int) (i : Nat) (h : l.length ≤ 1) : proveS l i = [] := by unfold proveS; rw [proveF, if_pos h]
theorem proveS_step (l : List Int) (i : Nat) (h : 2 ≤ l.length) (h2 : l.length ≤ 64) : proveS l i = if i < splitN l.length then proveS (l.take (splitN l.length)) i ++ [rootS (l.drop (splitN l.length))] else proveS (l.drop (splitN l.length)) (i - splitN l.length) ++ [rootS (l.take (splitN l.length))] := by
  have h3 := splitN_lt (n := l.length) (by omega) h2
  have e1 : (l.take (splitN l.length)).length = splitN l.length := by rw [List.length_take]; omega
  have e2 : (l.drop (splitN l.length)).length = l.length - splitN l.length := by rw [List.length_drop]
  unfold proveS
  rw [proveF, if_neg (by omega), proveF_fuel 63 64 (l.take _) _ (by omega) (by omega) (by omega), proveF_fuel 63 64 (l.drop _) _ (by omega) (by omega) (by omega)]

/-- The consistency proof. -/
def consF : Nat → List Int → Nat → Bool → List Int
  | 0, _, _, _ => []
  | f + 1, l, m, kn => if m = l.length then (if kn then [] else [rootS l]) else if m ≤ splitN l.length then consF f (l.take (splitN l.length)) m kn ++ [rootS (l.drop (splitN l.length))] else consF f (l.drop (splitN l.length)) (m - splitN l.length) false ++ [rootS (l.take (splitN l.length))]
def consS (l : List Int) (m : Nat) (kn : Bool) : List Int := consF 64 l m kn
theorem consF_fuel : ∀ (f g : Nat) (l : List Int) (m : Nat) (kn : Bool), l.length ≤ 64 → 1 ≤ m → m ≤ l.length → l.length ≤ f → l.length ≤ g → consF f l m kn = consF g l m kn
  | 0, _, _, _, _, _, _, _, _, _ => by omega
  | _ + 1, 0, _, _, _, _, _, _, _, _ => by omega
  | f + 1, g + 1, l, m, kn, h0, hm, hl, h1, h2 => by
    rw [consF, consF]
    by_cases h : m = l.length
    · rw [if_pos h, if_pos h]
    · rw [if_neg h, if_neg h]
      have h3 := splitN_lt (n := l.length) (by omega) h0
      have e1 : (l.take (splitN l.length)).length = splitN l.length := by rw [List.length_take]; omega
      have e2 : (l.drop (splitN l.length)).length = l.length - splitN l.length := by rw [List.length_drop]
      by_cases hk : m ≤ splitN l.length
      · rw [if_pos hk, if_pos hk, consF_fuel f g (l.take _) _ _ (by omega) (by omega) (by omega) (by omega) (by omega)]
      · rw [if_neg hk, if_neg hk, consF_fuel f g (l.drop _) _ _ (by omega) (by omega) (by omega) (by omega) (by omega)]
theorem consS_all (l : List Int) (kn : Bool) : consS l l.length kn = if kn then [] else [rootS l] := by unfold consS; rw [consF, if_pos rfl]
theorem consS_step (l : List Int) (m : Nat) (kn : Bool) (h1 : 1 ≤ m) (h : m < l.length) (h2 : l.length ≤ 64) : consS l m kn = if m ≤ splitN l.length then consS (l.take (splitN l.length)) m kn ++ [rootS (l.drop (splitN l.length))] else consS (l.drop (splitN l.length)) (m - splitN l.length) false ++ [rootS (l.take (splitN l.length))] := by
  have h3 := splitN_lt (n := l.length) (by omega) h2
  have e1 : (l.take (splitN l.length)).length = splitN l.length := by rw [List.length_take]; omega
  have e2 : (l.drop (splitN l.length)).length = l.length - splitN l.length := by rw [List.length_drop]
  unfold consS
  rw [consF, if_neg (by omega)]
  by_cases hk : m ≤ splitN l.length
  · rw [if_pos hk, if_pos hk, consF_fuel 63 64 (l.take _) _ _ (by omega) (by omega) (by omega) (by omega) (by omega)]
  · rw [if_neg hk, if_neg hk, consF_fuel 63 64 (l.drop _) _ _ (by omega) (by omega) (by omega) (by omega) (by omega)]

/-! ### Directions -/
/-- At which side the own part lies, from the leaf upwards; true: left. -/
def dirsF : Nat → Nat → Nat → List Bool
  | 0, _, _ => []
  | f + 1, n, i => if n ≤ 1 then [] else if i < splitN n then dirsF f (splitN n) i ++ [true] else dirsF f (n - splitN n) (i - splitN n) ++ [false]
def dirs (n i : Nat) : List Bool := dirsF 64 n i
theorem dirsF_fuel : ∀ (f g n i : Nat), n ≤ 64 → n ≤ f → n ≤ g → dirsF f n i = dirsF g n i
  | 0, 0, _, _, _, _, _ => rfl
  | 0, g + 1, n, i, _, h, _ => by show [] = _; rw [dirsF, if_pos (by omega)]
  | f + 1, 0, n, i, _, _, h => by show _ = []; rw [dirsF, if_pos (by omega)]
  | f + 1, g + 1, n, i, h0, h1, h2 => by
    rw [dirsF, dirsF]
    by_cases h : n ≤ 1
    · rw [if_pos h, if_pos h]
    · rw [if_neg h, if_neg h]
      have h3 := splitN_lt (n := n) (by omega) h0
      rw [dirsF_fuel f g (splitN n) _ (by omega) (by omega) (by omega), dirsF_fuel f g (n - splitN n) _ (by omega) (by omega) (by omega)]
theorem dirs_one (n i : Nat) (h : n ≤ 1) : dirs n i = [] := by unfold dirs; rw [dirsF, if_pos h]
theorem dirs_step (n i : Nat) (h : 2 ≤ n) (h2 : n ≤ 64) : dirs n i = if i < splitN n then dirs (splitN n) i ++ [true] else dirs (n - splitN n) (i - splitN n) ++ [false] := by
  have h3 := splitN_lt h h2
  unfold dirs
  rw [dirsF, if_neg (by omega), dirsF_fuel 63 64 (splitN n) _ (by omega) (by omega) (by omega), dirsF_fuel 63 64 (n - splitN n) _ (by omega) (by omega) (by omega)]

/-- The directions of the part with the first m leaves, and whether it begins at the first leaf. -/
def dirsCF : Nat → Nat → Nat → Bool → List Bool × Bool
  | 0, _, _, kn => ([], kn)
  | f + 1, n, m, kn => if m = n then ([], kn) else if m ≤ splitN n then ((dirsCF f (splitN n) m kn).1 ++ [true], (dirsCF f (splitN n) m kn).2) else ((dirsCF f (n - splitN n) (m - splitN n) false).1 ++ [false], (dirsCF f (n - splitN n) (m - splitN n) false).2)
def dirsC (n m : Nat) (kn : Bool) : List Bool × Bool := dirsCF 64 n m kn
theorem dirsCF_fuel : ∀ (f g n m : Nat) (kn : Bool), n ≤ 64 → 1 ≤ m → m ≤ n → n ≤ f → n ≤ g → dirsCF f n m kn = dirsCF g n m kn
  | 0, _, _, _, _, _, _, _, _, _ => by omega
  | _ + 1, 0, _, _, _, _, _, _, _, _ => by omega
  | f + 1, g + 1, n, m, kn, h0, hm, hl, h1, h2 => by
    rw [dirsCF, dirsCF]
    by_cases h : m = n
    · rw [if_pos h, if_pos h]
    · rw [if_neg h, if_neg h]
      have h3 := splitN_lt (n := n) (by omega) h0
      by_cases hk : m ≤ splitN n
      · rw [if_pos hk, if_pos hk, dirsCF_fuel f g (splitN n) _ _ (by omega) (by omega) (by omega) (by omega) (by omega)]
      · rw [if_neg hk, if_neg hk, dirsCF_fuel f g (n - splitN n) _ _ (by omega) (by omega) (by omega) (by omega) (by omega)]
theorem dirsC_all (n : Nat) (kn : Bool) : dirsC n n kn = ([], kn) := by unfold dirsC; rw [dirsCF, if_pos rfl]
theorem dirsC_step (n m : Nat) (kn : Bool) (h1 : 1 ≤ m) (h : m < n) (h2 : n ≤ 64) : dirsC n m kn = if m ≤ splitN n then ((dirsC (splitN n) m kn).1 ++ [true], (dirsC (splitN n) m kn).2) else ((dirsC (n - splitN n) (m - splitN n) false).1 ++ [false], (dirsC (n - splitN n) (m - splitN n) false).2) := by
  have h3 := splitN_lt (n := n) (by omega) h2
  unfold dirsC
  rw [dirsCF, if_neg (by omega)]
  by_cases hk : m ≤ splitN n
  · rw [if_pos hk, if_pos hk, dirsCF_fuel 63 64 (splitN n) _ _ (by omega) (by omega) (by omega) (by omega) (by omega)]
  · rw [if_neg hk, if_neg hk, dirsCF_fuel 63 64 (n - splitN n) _ _ (by omega) (by omega) (by omega) (by omega) (by omega)]

/-! ### The same by the bits of the index -/
def shiftF : Nat → Nat → Nat → Nat × Nat
  | 0, a, b => (a, b)
  | f + 1, a, b => if a % 2 = 0 ∧ a ≠ 0 then shiftF f (a / 2) (b / 2) else (a, b)
def oddF : Nat → Nat → Nat → Nat × Nat
  | 0, a, b => (a, b)
  | f + 1, a, b => if a % 2 = 1 then oddF f (a / 2) (b / 2) else (a, b)
def bitsF : Nat → Nat → Nat → List Bool
  | 0, _, _ => []
  | f + 1, a, b => if b = 0 then [] else if a % 2 = 1 ∨ a = b then false :: bitsF f ((shiftF 7 a b).1 / 2) ((shiftF 7 a b).2 / 2) else true :: bitsF f (a / 2) (b / 2)
def bitsS (a b : Nat) : List Bool := bitsF 8 a b
theorem dirs_bits0 : ∀ n : Fin 65, ∀ i : Fin 64, i.val < n.val → dirs n.val i.val = bitsS i.val (n.val - 1) := by decide +kernel
theorem dirs_bits {n i : Nat} (h : n ≤ 64) (hi : i < n) : dirs n i = bitsS i (n - 1) := dirs_bits0 ⟨n, by omega⟩ ⟨i, by omega⟩ hi
theorem dirsC_bits0 : ∀ n : Fin 65, ∀ m : Fin 64, 1 ≤ m.val → m.val < n.val → dirsC n.val m.val true = (bitsS (oddF 7 (m.val - 1) (n.val - 1)).1 (oddF 7 (m.val - 1) (n.val - 1)).2, decide (2 * splitN m.val = m.val) || decide (m.val = 1)) := by decide +kernel
theorem dirsC_bits {n m : Nat} (h : n ≤ 64) (h1 : 1 ≤ m) (hm : m < n) : dirsC n m true = (bitsS (oddF 7 (m - 1) (n - 1)).1 (oddF 7 (m - 1) (n - 1)).2, decide (2 * splitN m = m) || decide (m = 1)) := dirsC_bits0 ⟨n, by omega⟩ ⟨m, by omega⟩ h1 hm
theorem dirs_length0 : ∀ n : Fin 65, ∀ i : Fin 64, (dirs n.val i.val).length ≤ 6 := by decide +kernel
end Pl
end Go.Proofs.Ytldepnabkdpokaa
