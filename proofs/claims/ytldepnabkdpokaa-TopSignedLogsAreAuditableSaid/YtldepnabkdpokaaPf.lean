/- Plain laws of transparency logs: what the checks answer. No program in sight. -/
import Derived.Test.YtldepnabkdpokaaPe
namespace Go.Proofs.Ytldepnabkdpokaa
open Go.RowKit
namespace Pl

/-- What the reader gives next. -/
def nextS : List Int → Bool → Int × List Int × Bool
  | [], _ => (0, [], true)
  | x :: p, sh => (x, p, sh)
def incStep (st : Int × List Int × Bool) (d : Bool) : Int × List Int × Bool :=
  (if d then pairS st.1 (nextS st.2.1 st.2.2).1 else pairS (nextS st.2.1 st.2.2).1 st.1, (nextS st.2.1 st.2.2).2)
def incS (ds : List Bool) (st : Int × List Int × Bool) : Int × List Int × Bool := ds.foldl incStep st
theorem incS_snoc (ds : List Bool) (d : Bool) (st : Int × List Int × Bool) : incS (ds ++ [d]) st = incStep (incS ds st) d := by simp [incS]
def inclB : List Bool → Int → List Int → Int → Bool
  | [], r, [], root => r == root
  | d :: ds, r, x :: p, root => inclB ds (if d then pairS r x else pairS x r) p root
  | _, _, _, _ => false
def doneB (st : List Int × Bool) : Bool := !st.2 && st.1.isEmpty
theorem incS_short : ∀ (ds : List Bool) (r : Int), (incS ds (r, [], true)).2 = ([], true)
  | [], _ => rfl
  | d :: ds, r => by
    show (incS ds (incStep (r, [], true) d)).2 = _
    exact incS_short ds _
theorem incS_ok : ∀ (ds : List Bool) (r : Int) (p : List Int) (root : Int), ((incS ds (r, p, false)).1 == root && doneB (incS ds (r, p, false)).2) = inclB ds r p root
  | [], r, [], root => by simp [incS, inclB, doneB]
  | [], r, x :: p, root => by simp [incS, inclB, doneB]
  | d :: ds, r, [], root => by
    show ((incS ds (incStep (r, [], false) d)).1 == root && doneB (incS ds (incStep (r, [], false) d)).2) = false
    have : incStep (r, [], false) d = ((incStep (r, [], false) d).1, [], true) := rfl
    rw [this, incS_short]
    simp [doneB]
  | d :: ds, r, x :: p, root => incS_ok ds _ p root

def conStep (st : Int × Int × List Int × Bool) (d : Bool) : Int × Int × List Int × Bool :=
  if d then (st.1, pairS st.2.1 (nextS st.2.2.1 st.2.2.2).1, (nextS st.2.2.1 st.2.2.2).2) else (pairS (nextS st.2.2.1 st.2.2.2).1 st.1, pairS (nextS st.2.2.1 st.2.2.2).1 st.2.1, (nextS st.2.2.1 st.2.2.2).2)
def con0 (kn : Bool) (old : Int) (p : List Int) (sh : Bool) : Int × Int × List Int × Bool :=
  if kn then (old, old, p, sh) else ((nextS p sh).1, (nextS p sh).1, (nextS p sh).2)
def conF (ds : List Bool) (st : Int × Int × List Int × Bool) : Int × Int × List Int × Bool := ds.foldl conStep st
theorem conF_snoc (ds : List Bool) (d : Bool) (st : Int × Int × List Int × Bool) : conF (ds ++ [d]) st = conStep (conF ds st) d := by simp [conF]
def conS (n m : Nat) (kn : Bool) (old : Int) (p : List Int) (sh : Bool) : Int × Int × List Int × Bool := conF (dirsC n m kn).1 (con0 (dirsC n m kn).2 old p sh)
def extB : List Bool → Int → Int → List Int → Int → Int → Bool
  | [], x, y, [], old, root => x == old && y == root
  | d :: ds, x, y, z :: p, old, root => if d then extB ds x (pairS y z) p old root else extB ds (pairS z x) (pairS z y) p old root
  | _, _, _, _, _, _ => false
theorem conF_short : ∀ (ds : List Bool) (x y : Int), (conF ds (x, y, [], true)).2.2 = ([], true)
  | [], _, _ => rfl
  | d :: ds, x, y => by
    show (conF ds (conStep (x, y, [], true) d)).2.2 = _
    cases d <;> exact conF_short ds _ _
theorem conF_ok : ∀ (ds : List Bool) (x y : Int) (p : List Int) (old root : Int), ((conF ds (x, y, p, false)).1 == old && (conF ds (x, y, p, false)).2.1 == root && doneB (conF ds (x, y, p, false)).2.2) = extB ds x y p old root
  | [], x, y, [], old, root => by simp [conF, extB, doneB]
  | [], x, y, z :: p, old, root => by simp [conF, extB, doneB]
  | d :: ds, x, y, [], old, root => by
    show ((conF ds (conStep (x, y, [], false) d)).1 == old && (conF ds (conStep (x, y, [], false) d)).2.1 == root && doneB (conF ds (conStep (x, y, [], false) d)).2.2) = false
    have : conStep (x, y, [], false) d = ((conStep (x, y, [], false) d).1, (conStep (x, y, [], false) d).2.1, [], true) := by cases d <;> rfl
    rw [this, conF_short]
    simp [doneB]
  | true :: ds, x, y, z :: p, old, root => conF_ok ds _ _ p old root
  | false :: ds, x, y, z :: p, old, root => conF_ok ds _ _ p old root

/-- What the reference's checks answer. -/
def refIncB (root : Int) (n i : Nat) (leaf : Int) (p : List Int) : Bool := inclB (bitsS i (n - 1)) leaf p root
def refStart (old : Int) (m : Nat) (p : List Int) : List Int := if 2 * splitN m = m ∨ m = 1 then old :: p else p
def refExtB (old : Int) (m : Nat) (root : Int) (n : Nat) (p : List Int) : Bool :=
  if m = n then p.isEmpty && (old == root) else match refStart old m p with
    | [] => false
    | x :: l => extB (bitsS (oddF 7 (m - 1) (n - 1)).1 (oddF 7 (m - 1) (n - 1)).2) x x l old root
theorem inc_same {n i : Nat} (h : n ≤ 64) (hi : i < n) (leaf : Int) (p : List Int) (root : Int) : ((incS (dirs n i) (leaf, p, false)).1 == root && doneB (incS (dirs n i) (leaf, p, false)).2) = refIncB root n i leaf p := by
  rw [incS_ok, dirs_bits h hi]; rfl
theorem ext_same {n m : Nat} (h : n ≤ 64) (h1 : 1 ≤ m) (hm : m ≤ n) (old root : Int) (p : List Int) : ((conS n m true old p false).1 == old && (conS n m true old p false).2.1 == root && doneB (conS n m true old p false).2.2) = refExtB old m root n p := by
  unfold refExtB conS
  by_cases e : m = n
  · subst e
    rw [if_pos rfl, dirsC_all]
    have h2 := conF_ok [] old old p old root
    show ((conF [] (old, old, p, false)).1 == old && (conF [] (old, old, p, false)).2.1 == root && doneB (conF [] (old, old, p, false)).2.2) = _
    rw [h2]
    cases p <;> simp [extB]
  · rw [if_neg e]
    have hb := dirsC_bits h h1 (by omega : m < n)
    rw [hb]
    unfold refStart
    by_cases hk : 2 * splitN m = m ∨ m = 1
    · rw [if_pos hk]
      have e2 : (decide (2 * splitN m = m) || decide (m = 1)) = true := by simpa using hk
      simp only [e2, con0, if_true]
      exact conF_ok _ old old p old root
    · rw [if_neg hk]
      have e2 : (decide (2 * splitN m = m) || decide (m = 1)) = false := by rw [Bool.eq_false_iff]; simpa using hk
      simp only [e2, con0, Bool.false_eq_true, if_false]
      cases p with
      | nil =>
        show ((conF _ (0, 0, [], true)).1 == old && (conF _ (0, 0, [], true)).2.1 == root && doneB (conF _ (0, 0, [], true)).2.2) = false
        rw [conF_short]
        simp [doneB]
      | cons x p => exact conF_ok _ x x p old root

/-! ### Proofs that were made verify -/
theorem inclB_snoc : ∀ (ds : List Bool) (d : Bool) (r : Int) (p : List Int) (x v : Int), inclB ds r p v = true → inclB (ds ++ [d]) r (p ++ [x]) (if d then pairS v x else pairS x v) = true
  | [], d, r, [], x, v, h => by
    simp only [inclB, beq_iff_eq] at h
    subst h
    simp [inclB]
  | [], _, _, _ :: _, _, _, h => by simp [inclB] at h
  | _ :: _, _, _, [], _, _, h => by simp [inclB] at h
  | e :: ds, d, r, y :: p, x, v, h => inclB_snoc ds d _ p x v h
theorem prove_ok : ∀ (n : Nat) (l : List Int) (i : Nat), l.length = n → n ≤ 64 → i < n → inclB (dirs n i) (l.getD i 0) (proveS l i) (rootS l) = true
  | n, l, i, hl, hn, hi => by
    by_cases h : n ≤ 1
    · rw [dirs_one n i h, proveS_one l i (by omega)]
      match l, hl with
      | [], hl => simp at hl; omega
      | [x], hl =>
        obtain rfl : i = 0 := by omega
        simp [inclB, rootS_one]
      | x :: y :: l, hl => simp at hl; omega
    · have h3 := splitN_lt (n := n) (by omega) hn
      rw [dirs_step n i (by omega) hn, proveS_step l i (by omega) (by omega), rootS_step l (by omega) (by omega), hl]
      have e1 : (l.take (splitN n)).length = splitN n := by rw [List.length_take]; omega
      have e2 : (l.drop (splitN n)).length = n - splitN n := by rw [List.length_drop, hl]
      by_cases hk : i < splitN n
      · rw [if_pos hk, if_pos hk]
        have ih := prove_ok (splitN n) (l.take (splitN n)) i e1 (by omega) hk
        have e3 : (l.take (splitN n)).getD i 0 = l.getD i 0 := by
          simp only [List.getD_eq_getElem?_getD, List.getElem?_take, if_pos hk]
        rw [e3] at ih
        exact inclB_snoc _ true _ _ _ _ ih
      · rw [if_neg hk, if_neg hk]
        have ih := prove_ok (n - splitN n) (l.drop (splitN n)) (i - splitN n) e2 (by omega) (by omega)
        have e3 : (l.drop (splitN n)).getD (i - splitN n) 0 = l.getD i 0 := by
          simp only [List.getD_eq_getElem?_getD, List.getElem?_drop]
          rw [show splitN n + (i - splitN n) = i by omega]
        rw [e3] at ih
        exact inclB_snoc _ false _ _ _ _ ih
termination_by n => n
decreasing_by all_goals omega
theorem inclB_length : ∀ (ds : List Bool) (r : Int) (p : List Int) (v : Int), inclB ds r p v = true → p.length = ds.length
  | [], _, [], _, _ => rfl
  | [], _, _ :: _, _, h => by simp [inclB] at h
  | _ :: _, _, [], _, h => by simp [inclB] at h
  | d :: ds, _, x :: p, v, h => by simp [inclB_length ds _ p v h]
theorem prove_length {l : List Int} {i : Nat} (hn : l.length ≤ 64) (hi : i < l.length) : (proveS l i).length ≤ 6 := by
  rw [inclB_length _ _ _ _ (prove_ok l.length l i rfl hn hi)]
  exact dirs_length0 ⟨l.length, by omega⟩ ⟨i, by omega⟩

theorem splitN_mid0 : ∀ n : Fin 65, ∀ m : Fin 65, splitN n.val < m.val → m.val ≤ n.val → 2 ≤ n.val → splitN m.val = splitN n.val := by decide +kernel
theorem splitN_mid {n m : Nat} (hn : n ≤ 64) (h1 : splitN n < m) (h2 : m ≤ n) (h3 : 2 ≤ n) : splitN m = splitN n := splitN_mid0 ⟨n, by omega⟩ ⟨m, by omega⟩ h1 h2 h3
theorem extB_snoc : ∀ (ds : List Bool) (d : Bool) (x y : Int) (p : List Int) (z u v : Int), extB ds x y p u v = true → extB (ds ++ [d]) x y (p ++ [z]) (if d then u else pairS z u) (if d then pairS v z else pairS z v) = true
  | [], d, x, y, [], z, u, v, h => by
    simp only [extB, Bool.and_eq_true, beq_iff_eq] at h
    obtain ⟨rfl, rfl⟩ := h
    cases d <;> simp [extB]
  | [], _, _, _, _ :: _, _, _, _, h => by simp [extB] at h
  | _ :: _, _, _, _, [], _, _, _, h => by simp [extB] at h
  | true :: ds, d, x, y, q :: p, z, u, v, h => extB_snoc ds d _ _ p z u v h
  | false :: ds, d, x, y, q :: p, z, u, v, h => extB_snoc ds d _ _ p z u v h
theorem cons_ok : ∀ (n : Nat) (l : List Int) (m : Nat) (kn : Bool), l.length = n → n ≤ 64 → 1 ≤ m → m ≤ n →
    ((dirsC n m kn).2 = true → extB (dirsC n m kn).1 (rootS (l.take m)) (rootS (l.take m)) (consS l m kn) (rootS (l.take m)) (rootS l) = true) ∧
    ((dirsC n m kn).2 = false → ∃ x p, consS l m kn = x :: p ∧ extB (dirsC n m kn).1 x x p (rootS (l.take m)) (rootS l) = true) ∧ (kn = false → (dirsC n m kn).2 = false)
  | n, l, m, kn, hl, hn, h1, h2 => by
    by_cases e : m = n
    · subst e
      rw [dirsC_all]
      have e1 : consS l m kn = if kn then [] else [rootS l] := by rw [← hl]; exact consS_all l kn
      rw [e1, List.take_of_length_le (by omega)]
      cases kn
      · exact ⟨by simp, fun _ => ⟨rootS l, [], rfl, by simp [extB]⟩, by simp⟩
      · exact ⟨fun _ => by simp [extB], by simp, by simp⟩
    · have h3 := splitN_lt (n := n) (by omega) hn
      have t1 : (l.take (splitN n)).length = splitN n := by rw [List.length_take]; omega
      have t2 : (l.drop (splitN n)).length = n - splitN n := by rw [List.length_drop, hl]
      rw [dirsC_step n m kn h1 (by omega) hn, consS_step l m kn h1 (by omega) (by omega), rootS_step l (by omega) (by omega), hl]
      by_cases hk : m ≤ splitN n
      · simp only [if_pos hk]
        obtain ⟨i1, i2, i3⟩ := cons_ok (splitN n) (l.take (splitN n)) m kn t1 (by omega) h1 hk
        rw [List.take_take, Nat.min_eq_left hk] at i1 i2
        refine ⟨fun h => ?_, fun h => ?_, i3⟩
        · exact extB_snoc _ true _ _ _ _ _ _ (i1 h)
        · obtain ⟨x, p, g1, g2⟩ := i2 h
          exact ⟨x, p ++ [rootS (l.drop (splitN n))], by rw [g1]; rfl, extB_snoc _ true _ _ _ _ _ _ g2⟩
      · simp only [if_neg hk]
        obtain ⟨i1, i2, i3⟩ := cons_ok (n - splitN n) (l.drop (splitN n)) (m - splitN n) false t2 (by omega) (by omega) (by omega)
        have er : rootS (l.take m) = pairS (rootS (l.take (splitN n))) (rootS ((l.drop (splitN n)).take (m - splitN n))) := by
          have hm2 : (l.take m).length = m := by rw [List.length_take]; omega
          have := rootS_step (l.take m) (by omega) (by omega)
          rw [hm2, splitN_mid hn (by omega) h2 (by omega), List.take_take, Nat.min_eq_left (by omega), List.drop_take] at this
          exact this
        refine ⟨fun h => ?_, fun h => ?_, fun _ => i3 rfl⟩
        · rw [i3 rfl] at h; cases h
        · obtain ⟨x, p, g1, g2⟩ := i2 h
          refine ⟨x, p ++ [rootS (l.take (splitN n))], by rw [g1]; rfl, ?_⟩
          rw [er]
          exact extB_snoc _ false _ _ _ _ _ _ g2
termination_by n => n
decreasing_by all_goals omega
theorem ext_ok {l : List Int} {m : Nat} (hn : l.length ≤ 64) (h1 : 1 ≤ m) (h2 : m ≤ l.length) :
    ((conS l.length m true (rootS (l.take m)) (consS l m true) false).1 == rootS (l.take m) && (conS l.length m true (rootS (l.take m)) (consS l m true) false).2.1 == rootS l && doneB (conS l.length m true (rootS (l.take m)) (consS l m true) false).2.2) = true := by
  obtain ⟨i1, i2, _⟩ := cons_ok l.length l m true rfl hn h1 h2
  unfold conS
  cases hk : (dirsC l.length m true).2
  · obtain ⟨x, p, g1, g2⟩ := i2 hk
    rw [g1]
    show ((conF _ (x, x, p, false)).1 == _ && (conF _ (x, x, p, false)).2.1 == _ && doneB (conF _ (x, x, p, false)).2.2) = true
    rw [conF_ok]
    exact g2
  · show ((conF _ (rootS (l.take m), rootS (l.take m), consS l m true, false)).1 == _ && (conF _ (rootS (l.take m), rootS (l.take m), consS l m true, false)).2.1 == _ && doneB (conF _ (rootS (l.take m), rootS (l.take m), consS l m true, false)).2.2) = true
    rw [conF_ok]
    exact i1 hk

/-! ### All are digests -/
theorem pairS_digest (a b : Int) : isDigestB (pairS a b) = true := isDigestB_true.2 (by have h := pairS_range a b; have e : M = 2305843009213693951 := rfl; omega)
theorem rootF_digest : ∀ (f : Nat) (l : List Int), (∀ x ∈ l, isDigestB x = true) → isDigestB (rootF pairS 0 f l) = true
  | 0, _, _ => show isDigestB 0 = true by decide
  | _ + 1, [], _ => show isDigestB 0 = true by decide
  | _ + 1, [x], h => h x (by simp)
  | _ + 1, _ :: _ :: _, _ => pairS_digest _ _
theorem rootS_digest {l : List Int} (h : ∀ x ∈ l, isDigestB x = true) : isDigestB (rootS l) = true := rootF_digest 64 l h
theorem proveF_digest : ∀ (f : Nat) (l : List Int) (i : Nat), (∀ x ∈ l, isDigestB x = true) → ∀ x ∈ proveF f l i, isDigestB x = true
  | 0, _, _, _ => by intro x hx; cases hx
  | f + 1, l, i, h => by
    intro x hx
    rw [proveF] at hx
    have ht : ∀ y ∈ l.take (splitN l.length), isDigestB y = true := fun y hy => h y (List.mem_of_mem_take hy)
    have hd : ∀ y ∈ l.drop (splitN l.length), isDigestB y = true := fun y hy => h y (List.mem_of_mem_drop hy)
    split at hx
    · cases hx
    · split at hx <;> simp only [List.mem_append, List.mem_singleton] at hx <;> rcases hx with hx | rfl
      · exact proveF_digest f _ _ ht x hx
      · exact rootS_digest hd
      · exact proveF_digest f _ _ hd x hx
      · exact rootS_digest ht
theorem consF_digest : ∀ (f : Nat) (l : List Int) (m : Nat) (kn : Bool), (∀ x ∈ l, isDigestB x = true) → ∀ x ∈ consF f l m kn, isDigestB x = true
  | 0, _, _, _, _ => by intro x hx; cases hx
  | f + 1, l, m, kn, h => by
    intro x hx
    rw [consF] at hx
    have ht : ∀ y ∈ l.take (splitN l.length), isDigestB y = true := fun y hy => h y (List.mem_of_mem_take hy)
    have hd : ∀ y ∈ l.drop (splitN l.length), isDigestB y = true := fun y hy => h y (List.mem_of_mem_drop hy)
    split at hx
    · split at hx
      · cases hx
      · simp only [List.mem_singleton] at hx; subst hx; exact rootS_digest h
    · split at hx <;> simp only [List.mem_append, List.mem_singleton] at hx <;> rcases hx with hx | rfl
      · exact consF_digest f _ _ _ ht x hx
      · exact rootS_digest hd
      · exact consF_digest f _ _ _ hd x hx
      · exact rootS_digest ht
theorem consF_length : ∀ (f : Nat) (l : List Int) (m : Nat) (kn : Bool), (consF f l m kn).length ≤ f
  | 0, _, _, _ => by simp [consF]
  | f + 1, l, m, kn => by
    rw [consF]
    split
    · split <;> simp
    · split
      · have h := consF_length f (l.take (splitN l.length)) m kn
        simp only [List.length_append, List.length_singleton]
        omega
      · have h := consF_length f (l.drop (splitN l.length)) (m - splitN l.length) false
        simp only [List.length_append, List.length_singleton]
        omega
theorem incS_digest : ∀ (ds : List Bool) (r : Int) (p : List Int) (sh : Bool), isDigestB r = true → isDigestB (incS ds (r, p, sh)).1 = true
  | [], _, _, _, h => h
  | d :: ds, r, p, sh, _ => by
    show isDigestB (incS ds (incStep (r, p, sh) d)).1 = true
    exact incS_digest ds _ _ _ (by cases d <;> exact pairS_digest _ _)

/-! ### The leaf is determined -/
theorem inv_a (a b c q : Int) (h0 : 0 ≤ a) (h1 : a ≤ 2305843009213693950) (h2 : 0 ≤ b) (h3 : b ≤ 2305843009213693950) (u v : Int) (hu : c * u = 1 + 2305843009213693951 * v) (h : (a - b) * c = 2305843009213693951 * q) : a = b := by
  have e : a - b = 2305843009213693951 * (q * u - v * (a - b)) := by
    have h4 : (a - b) * c * u = 2305843009213693951 * q * u := by rw [h]
    rw [Int.mul_assoc, hu, Int.mul_add, Int.mul_one] at h4
    rw [Int.mul_sub]
    have h5 : (a - b) * (2305843009213693951 * v) = 2305843009213693951 * (v * (a - b)) := by
      rw [Int.mul_left_comm, Int.mul_comm v]
    rw [h5, Int.mul_assoc] at h4
    omega
  generalize q * u - v * (a - b) = t at e
  omega
theorem emod_sub {x y m : Int} (h : x % m = y % m) : ∃ q, x - y = m * q := by
  have h2 := Int.emod_eq_emod_iff_emod_sub_eq_zero.1 h
  exact Int.dvd_of_emod_eq_zero h2
theorem pairS_left {a b c : Int} (ha : isDigestB a = true) (hb : isDigestB b = true) (h : pairS a c = pairS b c) : a = b := by
  have ra := isDigestB_true.1 ha
  have rb := isDigestB_true.1 hb
  obtain ⟨q, hq⟩ := emod_sub h
  refine inv_a a b 1000003 q ra.1 ra.2 rb.1 rb.2 1229363429801019168 533153 (by decide) ?_
  rw [Int.sub_mul]
  have e : M = 2305843009213693951 := rfl
  rw [← e]
  omega
theorem pairS_right {a b c : Int} (ha : isDigestB a = true) (hb : isDigestB b = true) (h : pairS c a = pairS c b) : a = b := by
  have ra := isDigestB_true.1 ha
  have rb := isDigestB_true.1 hb
  obtain ⟨q, hq⟩ := emod_sub h
  refine inv_a a b 31 q ra.1 ra.2 rb.1 rb.2 2231460976658413501 30 (by decide) ?_
  rw [Int.sub_mul]
  have e : M = 2305843009213693951 := rfl
  rw [← e]
  omega
theorem inclB_leaf : ∀ (ds : List Bool) (a b : Int) (p : List Int) (root : Int), isDigestB a = true → isDigestB b = true → inclB ds a p root = true → inclB ds b p root = true → a = b
  | [], a, b, [], root, _, _, h1, h2 => by
    simp only [inclB, beq_iff_eq] at h1 h2
    rw [h1, h2]
  | [], _, _, _ :: _, _, _, _, h, _ => by simp [inclB] at h
  | _ :: _, _, _, [], _, _, _, h, _ => by simp [inclB] at h
  | true :: ds, a, b, x :: p, root, ha, hb, h1, h2 => pairS_left ha hb (inclB_leaf ds _ _ p root (pairS_digest _ _) (pairS_digest _ _) h1 h2)
  | false :: ds, a, b, x :: p, root, ha, hb, h1, h2 => pairS_right ha hb (inclB_leaf ds _ _ p root (pairS_digest _ _) (pairS_digest _ _) h1 h2)
end Pl
end Go.Proofs.Ytldepnabkdpokaa
