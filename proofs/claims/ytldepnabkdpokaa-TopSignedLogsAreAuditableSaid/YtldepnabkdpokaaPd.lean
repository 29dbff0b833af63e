/- Plain words and laws of transparency logs: no program in sight. -/
import Derived.Test.YtldepnabkdpokaaPc
namespace Go.Proofs.Ytldepnabkdpokaa
open Go.RowKit
namespace Pl

/-- The largest power of two below n (n at most 64). -/
def splitF : Nat → Nat → Nat → Nat
  | 0, k, _ => k
  | f + 1, k, n => if 2 * k < n then splitF f (2 * k) n else k
def splitN (n : Nat) : Nat := splitF 7 1 n
theorem splitN_all : ∀ n : Fin 65, 2 ≤ n.val → 1 ≤ splitN n.val ∧ splitN n.val < n.val ∧ n.val ≤ 2 * splitN n.val := by decide +kernel
theorem splitN_lt {n : Nat} (h : 2 ≤ n) (h2 : n ≤ 64) : 1 ≤ splitN n ∧ splitN n < n ∧ n ≤ 2 * splitN n := splitN_all ⟨n, by omega⟩ h

section generic
variable {α : Type} (pr : α → α → α) (z : α)

/-- The root, by halves. -/
def rootF : Nat → List α → α
  | 0, _ => z
  | _ + 1, [] => z
  | _ + 1, [x] => x
  | f + 1, x :: y :: l => pr (rootF f ((x :: y :: l).take (splitN (l.length + 2)))) (rootF f ((x :: y :: l).drop (splitN (l.length + 2))))

/-- One leaf onto the stack of complete subtrees; the newest is first. -/
def mergeF : Nat → List (α × Nat) → List (α × Nat)
  | 0, s => s
  | f + 1, (a, m) :: (b, k) :: s => if m = k then mergeF f ((pr b a, 2 * k) :: s) else (a, m) :: (b, k) :: s
  | _ + 1, s => s
def pushG (s : List (α × Nat)) (x : α) : List (α × Nat) := mergeF pr (s.length + 1) ((x, 1) :: s)
def stackF (l : List α) : List (α × Nat) := l.foldl (pushG pr) []
def foldF (s : List (α × Nat)) : α := match s with
  | [] => z
  | (r, _) :: s => s.foldl (fun r p => pr p.1 r) r
def logRootF (l : List α) : α := foldF pr z (stackF pr l)
end generic

/-- Trees, for trying the two ways at every length. -/
inductive Tree where
  | leaf (i : Nat)
  | node (a b : Tree)
def Tree.same : Tree → Tree → Bool
  | .leaf i, .leaf j => i == j
  | .node a b, .node c d => a.same c && b.same d
  | _, _ => false
theorem Tree.same_eq : ∀ (a b : Tree), a.same b = true → a = b
  | .leaf i, .leaf j, h => by simp only [Tree.same, beq_iff_eq] at h; rw [h]
  | .node a b, .node c d, h => by
    simp only [Tree.same, Bool.and_eq_true] at h
    rw [Tree.same_eq a c h.1, Tree.same_eq b d h.2]
  | .leaf _, .node _ _, h => by cases h
  | .node _ _, .leaf _, h => by cases h

section hom
variable {α β : Type} {pa : α → α → α} {pb : β → β → β} {za : α} {zb : β} (g : α → β) (hp : ∀ x y, g (pa x y) = pb (g x) (g y)) (hz : g za = zb)
include hp
theorem mergeF_map : ∀ (f : Nat) (s : List (α × Nat)), mergeF pb f (s.map fun p => (g p.1, p.2)) = (mergeF pa f s).map fun p => (g p.1, p.2)
  | 0, s => rfl
  | f + 1, [] => rfl
  | f + 1, [x] => rfl
  | f + 1, (a, m) :: (b, k) :: s => by
    simp only [List.map_cons, mergeF]
    by_cases h : m = k
    · rw [if_pos h, if_pos h, ← hp]
      exact mergeF_map f ((pa b a, 2 * k) :: s)
    · rw [if_neg h, if_neg h]; rfl
theorem pushF_map (s : List (α × Nat)) (x : α) : pushG pb (s.map fun p => (g p.1, p.2)) (g x) = (pushG pa s x).map fun p => (g p.1, p.2) := by
  unfold pushG
  rw [← mergeF_map g hp]
  simp
theorem stackF_map (l : List α) : stackF pb (l.map g) = (stackF pa l).map fun p => (g p.1, p.2) := by
  unfold stackF
  have : ∀ (l : List α) (s : List (α × Nat)), (l.map g).foldl (pushG pb) (s.map fun p => (g p.1, p.2)) = (l.foldl (pushG pa) s).map fun p => (g p.1, p.2) := by
    intro l
    induction l with
    | nil => intro s; rfl
    | cons x l ih =>
      intro s
      simp only [List.map_cons, List.foldl_cons]
      rw [pushF_map g hp, ih]
  exact this l []
include hz
theorem foldF_map (s : List (α × Nat)) : foldF pb zb (s.map fun p => (g p.1, p.2)) = g (foldF pa za s) := by
  cases s with
  | nil => exact hz.symm
  | cons p s =>
    obtain ⟨r, m⟩ := p
    simp only [List.map_cons, foldF]
    have : ∀ (s : List (α × Nat)) (r : α), (s.map fun p => (g p.1, p.2)).foldl (fun r p => pb p.1 r) (g r) = g (s.foldl (fun r p => pa p.1 r) r) := by
      intro s
      induction s with
      | nil => intro r; rfl
      | cons p s ih =>
        intro r
        simp only [List.map_cons, List.foldl_cons]
        rw [← hp, ih]
    exact this s r
theorem logRootF_map (l : List α) : logRootF pb zb (l.map g) = g (logRootF pa za l) := by
  unfold logRootF
  rw [stackF_map g hp, foldF_map g hp hz]
theorem rootF_map : ∀ (f : Nat) (l : List α), rootF pb zb f (l.map g) = g (rootF pa za f l)
  | 0, _ => hz.symm
  | _ + 1, [] => hz.symm
  | _ + 1, [x] => rfl
  | f + 1, x :: y :: l => by
    simp only [List.map_cons, rootF, List.length_map]
    rw [hp, ← rootF_map f, ← rootF_map f, List.map_take, List.map_drop]
    rfl
end hom

def leaves (n : Nat) : List Tree := (List.range n).map Tree.leaf
theorem trees_same0 : ∀ n : Fin 65, (logRootF Tree.node (.leaf 99) (leaves n.val)).same (rootF Tree.node (.leaf 99) 64 (leaves n.val)) = true := by decide +kernel
theorem trees_same (n : Fin 65) : logRootF Tree.node (.leaf 99) (leaves n.val) = rootF Tree.node (.leaf 99) 64 (leaves n.val) := Tree.same_eq _ _ (trees_same0 n)

def evalT {α : Type} (pr : α → α → α) (z : α) (l : List α) : Tree → α
  | .leaf i => l.getD i z
  | .node a b => pr (evalT pr z l a) (evalT pr z l b)
theorem leaves_eval {α : Type} (pr : α → α → α) (z : α) (l : List α) : (leaves l.length).map (evalT pr z l) = l := by
  unfold leaves
  rw [List.map_map]
  apply List.ext_getElem
  · simp
  · intro i h1 h2
    simp [evalT, List.getD_eq_getElem?_getD]
    rw [List.getElem?_eq_getElem h2]
    rfl
theorem roots_same {α : Type} (pr : α → α → α) (z : α) (l : List α) (h : l.length ≤ 64) : logRootF pr z l = rootF pr z 64 l := by
  have e := leaves_eval pr z l
  have hz : evalT pr z l (.leaf 99) = z := by
    show l.getD 99 z = z
    rw [List.getD_eq_getElem?_getD, List.getElem?_eq_none (by omega)]
    rfl
  have h1 := logRootF_map (pa := Tree.node) (pb := pr) (evalT pr z l) (fun _ _ => rfl) hz (leaves l.length)
  have h2 := rootF_map (pa := Tree.node) (pb := pr) (evalT pr z l) (fun _ _ => rfl) hz 64 (leaves l.length)
  rw [e] at h1 h2
  rw [h1, h2, trees_same ⟨l.length, by omega⟩]
end Pl
end Go.Proofs.Ytldepnabkdpokaa
