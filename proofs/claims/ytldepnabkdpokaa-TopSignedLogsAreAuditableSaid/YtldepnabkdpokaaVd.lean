/- Contracts: sorting an own row of integers; ranging over the map of keys. -/
import Derived.Test.YtldepnabkdpokaaVc
import Derived.Test.YtldepnabkdpokaaSb
import Derived.Lib.OwnBridge
import Derived.Lib.AppendIntMem
namespace Go.Proofs.Ytldepnabkdpokaa
open Go.RowKit
open Go.Maps (Keyed)

theorem Sort_own (xs : List Int) (v : Value) (B : Nat) (w : World) (hown : w.ownsRow B 3 1 v xs.length (intVals xs)) (hm : xs.length < 4611686018427387904) (hB : B ≤ w.heap.size) :
    Calls Try.prog 26 #[v] w fun e w' => e = .returned (.tuple #[]) ∧ w'.ownsRow B 3 1 v xs.length (intVals (xs.mergeSort fun x y => decide (x ≤ y))) ∧ Below B w w' := by
  by_cases hv : v = .slice none 0 0
  · subst hv
    have h0 : xs = [] := by
      rcases hown.2 with ⟨_, h⟩ | ⟨g, c, cur, h, _⟩
      · exact List.eq_nil_of_length_eq_zero h
      · cases h
    subst h0
    refine (Try.slices_Sort_int_none none 0 w).mono ?_
    rintro e w' ⟨rfl, rfl⟩
    exact ⟨rfl, by simpa using hown, Below.refl _ _⟩
  · obtain ⟨g, cap, rfl, hg, hlt, _, _, _, hH⟩ := Go.Lib.holds_of_ownsRow (enc := Value.int .i64) (zs := xs) hown hv
    refine (Try.slices_Sort_int g 0 cap xs w hH hlt hm).mono ?_
    rintro e w' ⟨rfl, q, os, rfl⟩
    have hl : (xs.mergeSort fun x y => decide (x ≤ y)).length = xs.length := List.length_mergeSort _
    have o1 := Go.Lib.ownsRow_putRow (enc := Value.int .i64) (q := q) (zs := xs) (ys := xs.mergeSort fun x y => decide (x ≤ y)) hown hl (Nat.le_refl _)
    rw [List.take_of_length_le (by rw [hl]; exact Nat.le_refl _)] at o1
    have b1 : Below B w (Sort.putRow (Value.int .i64) (Sort.ahead w q) g 0 (xs.mergeSort fun x y => decide (x ≤ y)).toArray) := Go.Lib.below_putRow (Below.refl _ _) hg
    have b2 := Go.Lib.below_grow B (Sort.putRow (Value.int .i64) (Sort.ahead w q) g 0 (xs.mergeSort fun x y => decide (x ≤ y)).toArray) (Nat.le_trans hB b1.size) 0 os
    have b3 := Go.Lib.below_grow _ (Sort.putRow (Value.int .i64) (Sort.ahead w q) g 0 (xs.mergeSort fun x y => decide (x ≤ y)).toArray) (Nat.le_refl _) 0 os
    exact ⟨rfl, ownsRow_below o1 b3 (Nat.le_refl _), b1.trans b2⟩

variable {P : Program} {K E : TypeId}
theorem ranges_below {R : Value → Option (DataW Unit × List MemPlace)} {w w' : World} {b r n cnt B : Nat} {D : DataW Unit} {left : Lit → Bool} (h : w.ranges P K R b r n D left cnt) (hb : Below B w w') (h1 : b < B) (h2 : r < B) : w'.ranges P K R b r n D left cnt := by
  obtain ⟨es, clock, since, seen, c0, g1, g2, g3, g4, g5, g6⟩ := h
  exact ⟨es, clock, since, seen, c0, (hb.block b h1).trans g1, g2, g3, g4, (hb.block r h2).trans g5, g6⟩
/-- 'for k, l := range keys': the step. -/
theorem wp_next_life {ops : Array Oper} {rest : List Oper} {o : Oper} {a : Act} {Q : Exit → Act → World → Prop} {w : World} (hg : o.guard = none) (it : Operand) (hop : o.op = Op.next it false)
    (hK : P.underlying K = some (.int .i64)) (g r n : Nat) (D : DataW Unit) (l : List Pl.Ev) (left : Lit → Bool) (cnt : Nat)
    (hit : a.eval it = .pointer (some ⟨r, 0, none⟩)) (h : w.ranges P K lifeR g r n D left cnt)
    (hD : ∀ k : Int, D.atKey (.int .i64 k) (lifeX Pl.Life.zero) = lifeX (Pl.lifeD l k) ∧ Maps.has D (.int .i64 k) = (Pl.lifeOf l k).isSome)
    (hDone : cnt = 0 → (∀ kl, left kl = false) → wpList P ops Q rest (a.put o.dst (.tuple #[.bool false])) w)
    (hMore : ∀ (x : Int) (w' : World) (cnt' : Nat), left (.int .i64 x) = true → (Pl.lifeOf l x).isSome = true → w'.ranges P K lifeR g r n D (fun z => left z && !z.sameKey (.int .i64 x)) cnt' → cnt' < cnt →
      w.grownBy w' (some r) → w'.heap.size = w.heap.size → (Instr.entry (.pointer (some ⟨r, 0, none⟩))).run P w' = .ok (.tuple #[.int .i64 x, .agg #[.int .i64 (Pl.lifeD l x).user, .int .i64 (Pl.lifeD l x).start, .int .i64 (Pl.lifeD l x).stop, .bool (Pl.lifeD l x).gone]]) w' →
      wpList P ops Q rest (a.put o.dst (.tuple #[.bool true, .int .i64 x, .agg #[.int .i64 (Pl.lifeD l x).user, .int .i64 (Pl.lifeD l x).start, .int .i64 (Pl.lifeD l x).stop, .bool (Pl.lifeD l x).gone]])) w') :
    wpList P ops Q (o :: rest) a w := by
  refine wpList_next_ranges w hg it hop K (Maps.int_keyed hK) lifeR (Value.int .i64) lifeV (fun key kl hkey => by obtain ⟨x, rfl, _⟩ := Maps.keyOf_int_inv hK hkey; exact ⟨x, rfl⟩) (fun v y hv => by obtain ⟨L, h1, _⟩ := lifeR_inv hv; exact ⟨L, h1⟩)
    g r n D left cnt hit h hDone (fun x c kl y w' cnt' hkey hlk hv hat hrg hlt hgr hsz hen => ?_)
  obtain ⟨x', ex, rfl, hwx⟩ := Maps.keyOf_int_inv hK hkey
  cases ex
  rw [lifeR_mk] at hv
  cases hv
  have h1 := (hD x).1
  rw [hat] at h1
  have h2 : c = Pl.lifeD l x := lifeX_inj h1
  subst h2
  have h3 := (hD x).2
  rw [Maps.has_true_of_atKey hat] at h3
  exact hMore x w' cnt' hlk h3.symm hrg hlt hgr hsz hen
/-- What has been collected. -/
structure Coll (l : List Pl.Ev) (left : Lit → Bool) (want : Int → Bool) (xs : List Int) : Prop where
  nodup : xs.Nodup
  mem : ∀ x, x ∈ xs ↔ (Pl.lifeOf l x).isSome = true ∧ left (.int .i64 x) = false ∧ want x = true
theorem Coll.start {l : List Pl.Ev} {D : DataW Unit} (hD : ∀ k : Int, D.atKey (.int .i64 k) (lifeX Pl.Life.zero) = lifeX (Pl.lifeD l k) ∧ Maps.has D (.int .i64 k) = (Pl.lifeOf l k).isSome) (want : Int → Bool) : Coll l (Maps.has D) want [] :=
  ⟨List.nodup_nil, fun x => by rw [(hD x).2]; constructor; (intro h; cases h); (rintro ⟨h1, h2, _⟩; rw [h1] at h2; cases h2)⟩
theorem struck (left : Lit → Bool) (x y : Int) : (left (.int .i64 y) && !(Lit.int .i64 y).sameKey (.int .i64 x)) = false ↔ left (.int .i64 y) = false ∨ y = x := by
  by_cases h : y = x
  · subst h; simp [Lit.sameKey]
  · rw [Maps.sameKey_ne (by simpa using h)]
    simp [h]
theorem Coll.skip {l : List Pl.Ev} {left : Lit → Bool} {want : Int → Bool} {xs : List Int} (h : Coll l left want xs) {x : Int} (hx : left (.int .i64 x) = true) (hw : want x = false) : Coll l (fun z => left z && !z.sameKey (.int .i64 x)) want xs := by
  refine ⟨h.nodup, fun y => ?_⟩
  rw [h.mem, struck]
  constructor
  · rintro ⟨a, b, c⟩; exact ⟨a, .inl b, c⟩
  · rintro ⟨a, b | b, c⟩
    · exact ⟨a, b, c⟩
    · subst b; rw [hw] at c; cases c
theorem Coll.take {l : List Pl.Ev} {left : Lit → Bool} {want : Int → Bool} {xs : List Int} (h : Coll l left want xs) {x : Int} (hx : left (.int .i64 x) = true) (hs : (Pl.lifeOf l x).isSome = true) (hw : want x = true) : Coll l (fun z => left z && !z.sameKey (.int .i64 x)) want (xs ++ [x]) := by
  have hn : x ∉ xs := fun hm => by have := ((h.mem x).1 hm).2.1; rw [hx] at this; cases this
  refine ⟨?_, fun y => ?_⟩
  · rw [List.nodup_append]
    refine ⟨h.nodup, by simp, fun a ha b hb => ?_⟩
    rw [List.mem_singleton.1 hb]
    intro e; subst e; exact hn ha
  · rw [List.mem_append, List.mem_singleton, h.mem, struck]
    constructor
    · rintro (⟨a, b, c⟩ | rfl)
      · exact ⟨a, .inl b, c⟩
      · exact ⟨hs, .inr rfl, hw⟩
    · rintro ⟨a, b | b, c⟩
      · exact .inl ⟨a, b, c⟩
      · exact .inr b
theorem Coll.length {l : List Pl.Ev} {left : Lit → Bool} {want : Int → Bool} {xs : List Int} (h : Coll l left want xs) : xs.length ≤ l.length := by
  have hsub : xs ⊆ l.map Pl.Ev.key := by
    intro x hx
    have h1 := ((h.mem x).1 hx).1
    unfold Pl.lifeOf at h1
    split at h1
    · rename_i h2
      unfold Pl.keyTime at h2
      split at h2
      · rename_i e he
        have h5 := List.find?_some he
        unfold Pl.isEv at h5
        simp only [Bool.and_eq_true, beq_iff_eq] at h5
        exact List.mem_map.2 ⟨e, List.mem_of_find?_eq_some he, h5.2⟩
      · omega
    · cases h1
  have := List.Nodup.length_le_of_subset h.nodup hsub
  rwa [List.length_map] at this
/-- Sorted at last. -/
theorem Coll.done {l : List Pl.Ev} (hv : Pl.Valid l) {left : Lit → Bool} {u t : Int} {xs : List Int} (h : Coll l left (fun x => (Pl.lifeD l x).user == u && Pl.lifeB (Pl.lifeD l x) t) xs) (hl : ∀ kl, left kl = false) : xs.mergeSort (fun x y => decide (x ≤ y)) = Pl.ukS l u t := by
  refine Pl.rising_eq ?_ (Pl.ukS_rising l u t) fun k => ?_
  · have h1 : (xs.mergeSort fun x y => decide (x ≤ y)).Pairwise (fun x y => decide (x ≤ y) = true) := List.pairwise_mergeSort (fun a b c h1 h2 => by simp at *; omega) (fun a b => by simp; omega) xs
    have h2 : (xs.mergeSort fun x y => decide (x ≤ y)).Nodup := (List.mergeSort_perm xs _).nodup_iff.2 h.nodup
    have h3 := h1.and h2
    refine h3.imp ?_
    rintro a b ⟨h4, h5⟩
    simp at h4
    omega
  · rw [(List.mergeSort_perm xs _).mem_iff, h.mem, hv.mem_ukS, Pl.kvB_life]
    simp only [hl, true_and, Bool.and_eq_true, beq_iff_eq]
    constructor
    · rintro ⟨a, b, c⟩
      refine ⟨?_, a, c⟩
      rw [← b]
      unfold Pl.lifeD Pl.lifeOf at *
      split at a
      · rename_i h6; simp [h6]
      · cases a
    · rintro ⟨a, b, c⟩
      refine ⟨b, ?_, c⟩
      rw [← a]
      unfold Pl.lifeD Pl.lifeOf at *
      split at b
      · rename_i h6; simp [h6]
      · cases b
end Go.Proofs.Ytldepnabkdpokaa
