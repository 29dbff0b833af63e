/- The map of keys in memory: what it reads as, looking up, storing. No program in sight. -/
import Derived.Test.YtldepnabkdpokaaMg
import Derived.Test.YtldepnabkdpokaaKf
import Derived.Maps.OwnSet
import Derived.Maps.RangeWalk
namespace Go.Proofs.Ytldepnabkdpokaa
open Go.RowKit
open Go.Maps (Keyed)

/-- The cells of events. -/
def quadCells (e : Pl.Ev) : List Value := [.int .i64 e.kind, .int .i64 e.key, .int .i64 e.user, .int .i64 e.time]
def quadVals (l : List Pl.Ev) : List Value := l.flatMap quadCells
theorem quadVals_length (l : List Pl.Ev) : (quadVals l).length = l.length * 4 := by
  induction l with
  | nil => rfl
  | cons e l ih =>
    show (quadCells e ++ quadVals l).length = _
    rw [List.length_append, ih, List.length_cons]
    show 4 + l.length * 4 = _
    omega
theorem quadVals_append (l m : List Pl.Ev) : quadVals (l ++ m) = quadVals l ++ quadVals m := List.flatMap_append
theorem quadVals_drop : ∀ (l : List Pl.Ev) (k : Nat), (quadVals l).drop (k * 4) = quadVals (l.drop k)
  | l, 0 => by simp
  | [], k + 1 => by simp [quadVals]
  | e :: l, k + 1 => by
    show (quadCells e ++ quadVals l).drop ((k + 1) * 4) = _
    rw [List.drop_append, List.drop_of_length_le (by show 4 ≤ (k + 1) * 4; omega), List.nil_append, List.drop_succ_cons]
    rw [show (k + 1) * 4 - (quadCells e).length = k * 4 by show (k + 1) * 4 - 4 = _; omega]
    exact quadVals_drop l k
theorem quadVals_take (l : List Pl.Ev) (k : Nat) (h : k ≤ l.length) : (quadVals l).take (k * 4) = quadVals (l.take k) := by
  have e : quadVals l = quadVals (l.take k) ++ quadVals (l.drop k) := by rw [← quadVals_append, List.take_append_drop]
  rw [e, List.take_append_of_le_length (by rw [quadVals_length, List.length_take]; omega), List.take_of_length_le (by rw [quadVals_length, List.length_take]; omega)]
theorem quadVals_get (l : List Pl.Ev) (k j : Nat) (hk : k < l.length) (hj : j < 4) : (quadVals l)[k * 4 + j]? = (quadCells l[k])[j]? := by
  rw [← List.getElem?_drop, quadVals_drop, List.drop_eq_getElem_cons hk]
  show (quadCells l[k] ++ quadVals _)[j]? = _
  rw [List.getElem?_append_left (by show j < 4; exact hj)]
/-- The four cells of an event of a slice. -/
theorem Sl.quad {w : World} {oa : Option Addr} {cap : Nat} {l : List Pl.Ev} (h : Sl w oa l.length cap 4 (quadVals l)) {k : Nat} (hk : k < l.length) : ∃ b off, oa = some ⟨b, off, none⟩ ∧ b < w.heap.size ∧
    w.cell? ⟨b, off + k * 4, none⟩ = some (.int .i64 l[k].kind) ∧ w.cell? ⟨b, off + k * 4 + 1, none⟩ = some (.int .i64 l[k].key) ∧ w.cell? ⟨b, off + k * 4 + 2, none⟩ = some (.int .i64 l[k].user) ∧ w.cell? ⟨b, off + k * 4 + 3, none⟩ = some (.int .i64 l[k].time) := by
  rcases h.mem with h0 | ⟨b, off, h1, h2, h3⟩
  · exfalso
    have := congrArg List.length h0
    rw [quadVals_length] at this
    simp at this
    omega
  · have g := fun j (hj : j < 4) u (hu : (quadCells l[k])[j]? = some u) => h3 (k * 4 + j) u ((quadVals_get l k j hk hj).trans hu)
    refine ⟨b, off, h1, h2, ?_, ?_, ?_, ?_⟩
    · have := g 0 (by decide) _ rfl; rwa [Nat.add_zero] at this
    · have := g 1 (by decide) _ rfl; rwa [← Nat.add_assoc] at this
    · have := g 2 (by decide) _ rfl; rwa [← Nat.add_assoc] at this
    · have := g 3 (by decide) _ rfl; rwa [← Nat.add_assoc] at this
/-- A beginning of a slice of events. -/
theorem Sl.takeQ {w : World} {oa : Option Addr} {cap : Nat} {l : List Pl.Ev} (h : Sl w oa l.length cap 4 (quadVals l)) {k : Nat} (hk : k ≤ l.length) {ob : Option Addr} (ho : ob = oa ∨ k = 0) : Sl w ob k cap 4 (quadVals (l.take k)) := by
  refine ⟨by rw [quadVals_length, List.length_take]; omega, by have := h.hcap; omega, h.hmax, ?_⟩
  by_cases h0 : k = 0
  · left; subst h0; rfl
  · have ho : ob = oa := by rcases ho with ho | ho; exact ho; exact absurd ho h0
    rcases h.mem with h1 | ⟨b, off, h1, h2, h3⟩
    · left
      have := congrArg List.length h1
      rw [quadVals_length] at this
      have h2 : l = [] := List.eq_nil_of_length_eq_zero (by simp at this; omega)
      rw [h2]; simp [quadVals]
    · right
      refine ⟨b, off, ho.trans h1, h2, fun j u hu => h3 j u ?_⟩
      rw [← quadVals_take l k hk, List.getElem?_take] at hu
      split at hu
      · exact hu
      · cases hu

/-- A life as a value, and as a datum. -/
def lifeV (L : Pl.Life) : Value := .agg #[.int .i64 L.user, .int .i64 L.start, .int .i64 L.stop, .bool L.gone]
def lifeX (L : Pl.Life) : DataW Unit := .agg [.lit (.int .i64 L.user), .lit (.int .i64 L.start), .lit (.int .i64 L.stop), .lit (.bool L.gone)]
def lifeR : Value → Option (DataW Unit × List MemPlace)
  | .agg ⟨[.int .i64 a, .int .i64 b, .int .i64 c, .bool d]⟩ => some (lifeX ⟨a, b, c, d⟩, [])
  | _ => none
theorem lifeR_mk (L : Pl.Life) : lifeR (lifeV L) = some (lifeX L, []) := rfl
theorem lifeR_inv {v : Value} {z : DataW Unit × List MemPlace} (h : lifeR v = some z) : ∃ L, v = lifeV L ∧ z = (lifeX L, []) := by
  unfold lifeR at h
  split at h
  · cases h; exact ⟨⟨_, _, _, _⟩, rfl, rfl⟩
  · cases h
theorem lifeX_inj {L M : Pl.Life} (h : lifeX L = lifeX M) : L = M := by
  obtain ⟨a, b, c, d⟩ := L
  obtain ⟨a', b', c', d'⟩ := M
  simp only [lifeX, DataW.agg.injEq, List.cons.injEq, DataW.lit.injEq, Lit.int.injEq, Lit.bool.injEq, and_true, true_and] at h
  obtain ⟨rfl, rfl, rfl, rfl⟩ := h
  rfl
/-- Block g is a map of at most n keys that knows what the events l say. -/
def KM (P : Program) (K : TypeId) (w : World) (g n : Nat) (l : List Pl.Ev) : Prop :=
  ∃ D : DataW Unit, w.ownsMap P K lifeR g n D ∧ (∀ k : Int, D.atKey (.int .i64 k) (lifeX Pl.Life.zero) = lifeX (Pl.lifeD l k) ∧ Maps.has D (.int .i64 k) = (Pl.lifeOf l k).isSome)
variable {P : Program} {K E : TypeId}
theorem KM.below {w w' : World} {g n B : Nat} {l : List Pl.Ev} (h : KM P K w g n l) (hb : Below B w w') (hg : g < B) : KM P K w' g n l := by
  obtain ⟨D, ⟨es, clock, h1, h2⟩, h3⟩ := h
  exact ⟨D, ⟨es, clock, (hb.block g hg).trans h1, h2⟩, h3⟩
theorem KM.lt {w : World} {g n : Nat} {l : List Pl.Ev} (h : KM P K w g n l) : g < w.heap.size := by
  obtain ⟨D, h1, _⟩ := h
  exact h1.lt
theorem KM.setCell {w : World} {g n : Nat} {l : List Pl.Ev} (h : KM P K w g n l) {a : Addr} (ha : g ≠ a.block) (u : Value) : KM P K (w.setCell a u) g n l := by
  obtain ⟨D, h1, h2⟩ := h
  exact ⟨D, h1.setCell ha u, h2⟩
theorem KM.made (w : World) : KM P K (w.alloc (.map #[] 0)) w.heap.size 0 [] :=
  ⟨_, World.ownsMap_made w P K lifeR, fun k => ⟨by simp [DataW.atKey, Pl.lifeD, Pl.lifeOf_nil], by simp [Maps.has_eq, Pl.lifeOf_nil]⟩⟩
theorem life_at {v : Value} {L : Pl.Life} {ps : List MemPlace} (h : lifeR v = some (lifeX L, ps)) : v = lifeV L := by
  obtain ⟨M, h1, h2⟩ := lifeR_inv h
  rw [h1, lifeX_inj (congrArg Prod.fst h2)]
/-- 'old, known := keys[k]'. -/
theorem wp_look_ok {ops : Array Oper} {rest : List Oper} {o : Oper} {a : Act} {Q : Exit → Act → World → Prop} {w : World} (hg : o.guard = none) (m x : Operand) (t : TypeId) (hop : o.op = Op.lookup t m x true)
    (hK : P.underlying K = some (.int .i64)) (ht : P.underlying t = some (.map K E)) (hz : ∀ w, (zeroValue E).run P w = .ok (lifeV Pl.Life.zero) w) {g n : Nat} {l : List Pl.Ev} (h : KM P K w g n l)
    (hm : a.eval m = .map (some g)) {k : Int} (hx : a.eval x = .int .i64 k) (hk : (Lit.int .i64 k).wf = true)
    (hN : wpList P ops Q rest (a.put o.dst (.tuple #[.agg #[.int .i64 (Pl.lifeD l k).user, .int .i64 (Pl.lifeD l k).start, .int .i64 (Pl.lifeD l k).stop, .bool (Pl.lifeD l k).gone], .bool (Pl.lifeOf l k).isSome])) w) : wpList P ops Q (o :: rest) a w := by
  obtain ⟨D, h1, h2⟩ := h
  refine wpList_lookup_own_ok w hg m x t hop K E (Maps.int_keyed hK) ht lifeR (hz w) (lifeX Pl.Life.zero) [] (lifeR_mk _) g n D hm h1 _ _ hx (Maps.keyOf_int_mk hK hk) fun v ps hv => ?_
  rw [(h2 k).1] at hv
  rw [(h2 k).2, life_at hv]
  exact hN
/-- 'l := keys[k]'. -/
theorem wp_look {ops : Array Oper} {rest : List Oper} {o : Oper} {a : Act} {Q : Exit → Act → World → Prop} {w : World} (hg : o.guard = none) (m x : Operand) (t : TypeId) (hop : o.op = Op.lookup t m x false)
    (hK : P.underlying K = some (.int .i64)) (ht : P.underlying t = some (.map K E)) (hz : ∀ w, (zeroValue E).run P w = .ok (lifeV Pl.Life.zero) w) {g n : Nat} {l : List Pl.Ev} (h : KM P K w g n l)
    (hm : a.eval m = .map (some g)) {k : Int} (hx : a.eval x = .int .i64 k) (hk : (Lit.int .i64 k).wf = true)
    (hN : wpList P ops Q rest (a.put o.dst (.agg #[.int .i64 (Pl.lifeD l k).user, .int .i64 (Pl.lifeD l k).start, .int .i64 (Pl.lifeD l k).stop, .bool (Pl.lifeD l k).gone])) w) : wpList P ops Q (o :: rest) a w := by
  obtain ⟨D, h1, h2⟩ := h
  refine wpList_plain hg fun K' hK' => ?_
  obtain ⟨v, ps, hrun, hv⟩ := h1.lookup (Maps.int_keyed hK) ht (hz w) (lifeR_mk _) (Maps.keyOf_int_mk hK hk)
  rw [(h2 k).1] at hv
  rw [life_at hv] at hrun
  unfold Oper.wp
  simp [execOp, hop, hm, hx, hrun, Result.andThen]
  exact hK' _ _ hN
/-- 'keys[e.Key] = l'. -/
theorem wp_store {ops : Array Oper} {rest : List Oper} {o : Oper} {a : Act} {Q : Exit → Act → World → Prop} {w : World} (hg : o.guard = none) (m x v : Operand) (t : TypeId) (hop : o.op = Op.mapUpdate t m x v)
    (hK : P.underlying K = some (.int .i64)) (ht : P.underlying t = some (.map K E)) {g n : Nat} {l : List Pl.Ev} (h : KM P K w g n l) (hn : n < maxLen) {e : Pl.Ev} (hv : Pl.Valid l) (hgood : Pl.Good l (Pl.lastT l) e)
    (hm : a.eval m = .map (some g)) (hx : a.eval x = .int .i64 e.key) (hk : (Lit.int .i64 e.key).wf = true) {L : Pl.Life} (hL : L = Pl.next (Pl.lifeD l e.key) e) (hv2 : a.eval v = lifeV L)
    (hN : ∀ w', KM P K w' g (n + 1) (l ++ [e]) → w.grownBy w' (some g) → wpList P ops Q rest (a.put o.dst undef) w') : wpList P ops Q (o :: rest) a w := by
  obtain ⟨D, h1, h2⟩ := h
  subst hL
  refine wpList_mapUpdate_own w hg m x v t hop K E (Maps.int_keyed hK) ht lifeR g n D hm h1 hn _ _ _ hx hv2 (Maps.keyOf_int_mk hK hk) _ [] (lifeR_mk _) fun w' h3 h4 => hN w' ⟨_, h3, fun k => ?_⟩ h4
  have hkl : WideAt.IsKeyLit (Lit.int .i64 e.key) := by simp [WideAt.IsKeyLit]
  by_cases hke : k = e.key
  · subst hke
    rw [Maps.atKey_put_same h1.isMap hkl, Maps.has_put_same h1.isMap hkl]
    unfold Pl.lifeD
    rw [Pl.lifeOf_snoc hv hgood, if_pos rfl]
    exact ⟨rfl, rfl⟩
  · have hne : (Lit.int .i64 k) ≠ Lit.int .i64 e.key := by simpa using hke
    rw [Maps.atKey_put_other hne, Maps.has_put_other hne, (h2 k).1, (h2 k).2]
    unfold Pl.lifeD
    rw [Pl.lifeOf_snoc hv hgood, if_neg hke]
    exact ⟨rfl, rfl⟩
end Go.Proofs.Ytldepnabkdpokaa
