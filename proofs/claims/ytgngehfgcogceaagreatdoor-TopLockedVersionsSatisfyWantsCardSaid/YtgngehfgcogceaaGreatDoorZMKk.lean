/- Texts joined: Kh Ki Cj Kk. -/
import Derived.Test.YtgngehfgcogceaaGreatDoorZMKd
import Derived.Deep.Slices
import Derived.Test.YtgngehfgcogceaaGreatDoorZMBj
import Derived.Test.YtgngehfgcogceaaGreatDoorZMKl
section
/- What came in, read by its shape: integers, bytes, truth values, strings, slices and structs of these. No program in sight. -/
namespace Go.Proofs.YtgngehfgcogceaaGreatDoor
open Go.RowKit

/-- The shape of a datum; a struct is a chain of its fields. -/
inductive Sh where
  | int | byte | bool | str
  | sl (e : Sh)
  | nil
  | cons (f rest : Sh)

namespace Sh
def size : Sh → Nat
  | .nil => 0
  | .cons f r => f.size + r.size
  | _ => 1
def T : Sh → Type
  | .int => Int
  | .byte => UInt8
  | .bool => Bool
  | .str => List UInt8
  | .sl e => List e.T
  | .nil => Unit
  | .cons f r => f.T × r.T
/-- The integers lie in their range, lengths are lengths. -/
def Wf : (s : Sh) → s.T → Prop
  | .int, n => -9223372036854775808 ≤ (show Int from n) ∧ (show Int from n) ≤ 9223372036854775807
  | .str, l => (show List UInt8 from l).length ≤ 9223372036854775807
  | .sl e, l => (show List e.T from l).length ≤ 9223372036854775807 ∧ ∀ x ∈ (show List e.T from l), e.Wf x
  | .cons f r, x => f.Wf (show f.T × r.T from x).1 ∧ r.Wf (show f.T × r.T from x).2
  | _, _ => True
/-- The cells cs are the datum, in w. -/
def Holds (w : World) : (s : Sh) → List Value → s.T → Prop
  | .int, cs, n => cs = [.int .i64 n]
  | .byte, cs, b => cs = [.int .u8 ((show UInt8 from b).toNat : Int)]
  | .bool, cs, b => cs = [.bool b]
  | .str, cs, l => cs = [.string ⟨(show List UInt8 from l).toArray⟩]
  | .sl e, cs, l => ∃ oa cap, cs = [.slice oa (show List e.T from l).length cap] ∧ (show List e.T from l).length ≤ cap ∧ cap ≤ maxLen ∧
      ((show List e.T from l) = [] ∨ ∃ b off, oa = some ⟨b, off, none⟩ ∧ b < w.heap.size ∧
        ∀ i (h : i < (show List e.T from l).length), ∃ es : List Value, es.length = e.size ∧ (∀ j u, es[j]? = some u → w.cell? ⟨b, off + i * e.size + j, none⟩ = some u) ∧ Holds w e es (show List e.T from l)[i])
  | .nil, cs, _ => cs = []
  | .cons f r, cs, x => ∃ c1 c2, cs = c1 ++ c2 ∧ c1.length = f.size ∧ Holds w f c1 (show f.T × r.T from x).1 ∧ Holds w r c2 (show f.T × r.T from x).2

theorem Holds.below {w w' : World} {B : Nat} (hb : Below B w w') (hB : w.heap.size ≤ B) : ∀ (s : Sh) (cs : List Value) (x : s.T), Holds w s cs x → Holds w' s cs x
  | .int, _, _, h => h
  | .byte, _, _, h => h
  | .bool, _, _, h => h
  | .str, _, _, h => h
  | .nil, _, _, h => h
  | .cons f r, _, _, ⟨c1, c2, h1, h2, h3, h4⟩ => ⟨c1, c2, h1, h2, Holds.below hb hB f _ _ h3, Holds.below hb hB r _ _ h4⟩
  | .sl e, _, _, ⟨oa, cap, h1, h2, h3, h4⟩ => by
    refine ⟨oa, cap, h1, h2, h3, ?_⟩
    rcases h4 with h | ⟨b, off, g1, g2, g3⟩
    · exact .inl h
    · refine .inr ⟨b, off, g1, Nat.lt_of_lt_of_le g2 hb.size, fun i hi => ?_⟩
      obtain ⟨es, k1, k2, k3⟩ := g3 i hi
      exact ⟨es, k1, fun j u hu => (hb.cell (p := ⟨b, off + i * e.size + j, none⟩) (Nat.lt_of_lt_of_le g2 hB)).trans (k2 j u hu), Holds.below hb hB e _ _ k3⟩

/-- The type t (or the fields l from the cell o on) has the shape. -/
def fitsB (P : Program) : Sh → TypeId ⊕ (List Field × Nat) → Bool
  | .int, .inl t => match P.underlying t with | some (.int .i64) => true | _ => false
  | .byte, .inl t => match P.underlying t with | some (.int .u8) => true | _ => false
  | .bool, .inl t => match P.underlying t with | some .bool => true | _ => false
  | .str, .inl t => match P.underlying t with | some .string => true | _ => false
  | .sl e, .inl t => match P.underlying t with | some (.slice e') => P.cellsOf e' == e.size && e.size != 0 && fitsB P e (.inl e') | _ => false
  | .nil, .inl t => match P.underlying t with | some (.struct fs) => fs.size == 0 && P.cellsOf t == 0 | _ => false
  | .cons f r, .inl t => match P.underlying t with
    | some (.struct fs) => P.cellsOf t == f.size + r.size && (match fs.toList with
      | fd :: l => fd.offset == 0 && P.cellsOf fd.type == f.size && fitsB P f (.inl fd.type) && fitsB P r (.inr (l, f.size))
      | [] => false)
    | _ => false
  | .nil, .inr x => x.1.isEmpty
  | .cons f r, .inr x => match x.1 with
    | fd :: l => fd.offset == x.2 && P.cellsOf fd.type == f.size && fitsB P f (.inl fd.type) && fitsB P r (.inr (l, x.2 + f.size))
    | [] => false
  | _, .inr _ => false

theorem wf_i64 {n : Int} (h : (Lit.int .i64 n).wf = true) : -9223372036854775808 ≤ n ∧ n ≤ 9223372036854775807 := by
  have := bounds_i64 h
  omega

section
variable {H : Type} {enc : TypeId × Value → H} {P : Program} {w : World} {sp : Nat → Bool} {hd : Bool}
theorem open_sh : ∀ (s : Sh),
    (∀ (t : TypeId) (fuel : Nat) (cs : List Value) (x : DataW H × List MemPlace), fitsB P s (.inl t) = true → DataW.trod enc P w 0 sp hd fuel t cs = some x → ∃ d : s.T, Holds w s cs d ∧ s.Wf d) ∧
    (∀ (l : List Field) (o n : Nat) (cs : List Value) (ys : List (DataW H × List MemPlace)), fitsB P s (.inr (l, o)) = true → cs.length = o + s.size → ys.length = l.length →
      (∀ (i : Nat) (f : Field), l[i]? = some f → DataW.trod enc P w 0 sp hd n f.type ((cs.drop f.offset).take (P.cellsOf f.type)) = ys[i]?) → ∃ d : s.T, Holds w s (cs.drop o) d ∧ s.Wf d)
  | .int => by
    refine ⟨fun t fuel cs x hf h => ?_, fun l o n cs ys hf => by simp [fitsB] at hf⟩
    simp only [fitsB] at hf
    split at hf
    · rename_i ht
      obtain ⟨n, h1, _, h3⟩ := DataW.trod_int ht h
      exact ⟨n, h1, wf_i64 h3⟩
    · cases hf
  | .byte => by
    refine ⟨fun t fuel cs x hf h => ?_, fun l o n cs ys hf => by simp [fitsB] at hf⟩
    simp only [fitsB] at hf
    split at hf
    · rename_i ht
      obtain ⟨n, h1, _, h3⟩ := DataW.trod_int ht h
      refine ⟨UInt8.ofNat n.toNat, ?_, trivial⟩
      show cs = [.int .u8 ((UInt8.ofNat n.toNat).toNat : Int)]
      rw [u8_of h3]
      exact h1
    · cases hf
  | .bool => by
    refine ⟨fun t fuel cs x hf h => ?_, fun l o n cs ys hf => by simp [fitsB] at hf⟩
    simp only [fitsB] at hf
    split at hf
    · rename_i ht
      obtain ⟨b, h1, _⟩ := DataW.trod_bool ht h
      exact ⟨b, h1, trivial⟩
    · cases hf
  | .str => by
    refine ⟨fun t fuel cs x hf h => ?_, fun l o n cs ys hf => by simp [fitsB] at hf⟩
    simp only [fitsB] at hf
    split at hf
    · rename_i ht
      obtain ⟨b, h1, _, h3⟩ := DataW.trod_string ht h
      refine ⟨b.data.toList, ?_, ?_⟩
      · show cs = [.string ⟨b.data.toList.toArray⟩]
        rw [h1]
      · show b.data.toList.length ≤ 9223372036854775807
        have : b.data.toList.length = b.size := rfl
        rw [this]
        unfold maxLen at h3
        omega
    · cases hf
  | .nil => by
    refine ⟨fun t fuel cs x hf h => ?_, fun l o n cs ys hf hl _ _ => ⟨(), ?_, trivial⟩⟩
    · simp only [fitsB] at hf
      split at hf
      · rename_i fs ht
        simp only [Bool.and_eq_true, beq_iff_eq] at hf
        obtain ⟨_, _, _, _, hc, _⟩ := DataW.trod_struct ht h
        exact ⟨(), List.eq_nil_of_length_eq_zero (hc.trans hf.2), trivial⟩
      · cases hf
    · show cs.drop o = []
      exact List.drop_of_length_le (by rw [hl]; show o + 0 ≤ o; omega)
  | .cons f r => by
    have tail : ∀ (fd : Field) (l : List Field) (o n : Nat) (cs : List Value) (ys : List (DataW H × List MemPlace)), fd.offset = o → P.cellsOf fd.type = f.size → fitsB P f (.inl fd.type) = true → fitsB P r (.inr (l, o + f.size)) = true →
        cs.length = o + (f.size + r.size) → ys.length = l.length + 1 →
        (∀ (i : Nat) (g : Field), (fd :: l)[i]? = some g → DataW.trod enc P w 0 sp hd n g.type ((cs.drop g.offset).take (P.cellsOf g.type)) = ys[i]?) → ∃ d : (Sh.cons f r).T, Holds w (.cons f r) (cs.drop o) d ∧ (Sh.cons f r).Wf d := by
      intro fd l o n cs ys h1 h2 h3 h4 h5 h6 h7
      have e0 := h7 0 fd rfl
      match ys, h6 with
      | y :: ys, h6 =>
        rw [h1, h2] at e0
        obtain ⟨x, hx, hxw⟩ := (open_sh f).1 fd.type n _ y h3 e0
        obtain ⟨z, hz, hzw⟩ := (open_sh r).2 l (o + f.size) n cs ys h4 (by omega) (by simpa using h6) (fun i g hg => by simpa using h7 (i + 1) g (by simpa using hg))
        refine ⟨(x, z), ⟨(cs.drop o).take f.size, cs.drop (o + f.size), ?_, ?_, hx, hz⟩, hxw, hzw⟩
        · rw [← List.drop_drop, List.take_append_drop]
        · rw [List.length_take, List.length_drop]; omega
    refine ⟨fun t fuel cs x hf h => ?_, fun l o n cs ys hf hl hy hall => ?_⟩
    · simp only [fitsB] at hf
      split at hf
      · rename_i fs ht
        simp only [Bool.and_eq_true, beq_iff_eq] at hf
        obtain ⟨hsz, hf⟩ := hf
        obtain ⟨ys, n, _, _, hc, hyl, hall⟩ := DataW.trod_struct ht h
        split at hf
        · rename_i fd l hfs
          simp only [Bool.and_eq_true, beq_iff_eq] at hf
          obtain ⟨⟨⟨g1, g2⟩, g3⟩, g4⟩ := hf
          have := tail fd l 0 n cs ys g1 g2 g3 (by simpa using g4) (by rw [hc, hsz]; omega) (by
            rw [hyl, ← Array.length_toList, hfs]; rfl) (fun i g hg => hall i g (by rw [← Array.getElem?_toList, hfs]; exact hg))
          simpa using this
        · cases hf
      · cases hf
    · simp only [fitsB] at hf
      split at hf
      · rename_i fd l'
        simp only [Bool.and_eq_true, beq_iff_eq] at hf
        obtain ⟨⟨⟨g1, g2⟩, g3⟩, g4⟩ := hf
        exact tail fd l' o n cs ys g1 g2 g3 g4 hl (by simpa using hy) hall
      · cases hf
  | .sl e => by
    refine ⟨fun t fuel cs x hf h => ?_, fun l o n cs ys hf => by simp [fitsB] at hf⟩
    simp only [fitsB] at hf
    split at hf
    · rename_i e' ht
      simp only [Bool.and_eq_true, beq_iff_eq, bne_iff_ne] at hf
      obtain ⟨⟨hC, hpos⟩, hfe⟩ := hf
      rcases Deep.open_slice ht h with ⟨rfl, _⟩ | ⟨a, len, cap, m, n, D, Pl, rfl, _, hl, hm, hmm, _, hx⟩
      · exact ⟨([] : List e.T), ⟨none, 0, rfl, Nat.le_refl _, Nat.zero_le _, .inl rfl⟩, Nat.zero_le _, fun x hx => by cases hx⟩
      · have hlm : len ≤ m := by rw [hmm]; split <;> omega
        have each : ∀ i, i < len → ∃ (es : List Value) (d : e.T), es.length = e.size ∧ (∀ j u, es[j]? = some u → w.cell? ((a.add (i * e.size)).add j) = some u) ∧ Holds w e es d ∧ e.Wf d := by
          intro i hi
          obtain ⟨es, h1, h2⟩ := hx i (by omega)
          rw [hC] at h1
          obtain ⟨_, h3, h4⟩ := World.cells?_some h1
          obtain ⟨d, hd1, hd2⟩ := (open_sh e).1 e' n es _ hfe h2
          refine ⟨es, d, h3, fun j u hu => ?_, hd1, hd2⟩
          rw [h4 j (by have := (List.getElem?_eq_some_iff.1 hu).1; omega)]
          exact hu
        have ex : ∀ k, k ≤ len → ∃ L : List e.T, L.length = k ∧ ∀ i (h : i < L.length), ∃ es : List Value, es.length = e.size ∧ (∀ j u, es[j]? = some u → w.cell? ((a.add (i * e.size)).add j) = some u) ∧ Holds w e es L[i] ∧ e.Wf L[i] := by
          intro k
          induction k with
          | zero => intro _; exact ⟨[], rfl, fun i h => by simp at h⟩
          | succ k ih =>
            intro hk
            obtain ⟨L, h1, h2⟩ := ih (by omega)
            obtain ⟨es, d, h3⟩ := each k (by omega)
            refine ⟨L ++ [d], by simp [h1], fun i hi => ?_⟩
            by_cases hik : i < L.length
            · rw [List.getElem_append_left hik]; exact h2 i hik
            · have : i = L.length := by simp at hi; omega
              subst this
              rw [List.getElem_append_right (Nat.le_refl _)]
              simp only [Nat.sub_self, List.getElem_cons_zero]
              rw [h1]
              exact ⟨es, h3⟩
        obtain ⟨L, hL, hall⟩ := ex len (Nat.le_refl _)
        refine ⟨L, ⟨some a, cap, by rw [← hL], by rw [hL]; exact hl, hm, ?_⟩, ?_, ?_⟩
        · rcases Nat.eq_zero_or_pos len with h0 | h0
          · exact .inl (List.eq_nil_of_length_eq_zero (hL.trans h0))
          · right
            obtain ⟨es, h1, h2, _⟩ := hall 0 (by omega)
            have hc0 : w.cell? ((a.add (0 * e.size)).add 0) = some (es[0]'(by omega)) := h2 0 _ (List.getElem?_eq_getElem (by omega))
            have ha : (a.add (0 * e.size)).add 0 = a := by simp [Addr.add]
            rw [ha] at hc0
            have hsp := spot_none hc0
            refine ⟨a.block, a.off, by rw [← hsp], World.block_lt_of_cell? w _ hc0, fun i hi => ?_⟩
            obtain ⟨es, k1, k2, k3, _⟩ := hall i hi
            refine ⟨es, k1, fun j u hu => ?_, k3⟩
            have := k2 j u hu
            rw [hsp, addr_add, addr_add] at this
            exact this
        · show L.length ≤ _
          rw [hL]
          unfold maxLen at hm
          omega
        · intro x hx
          obtain ⟨i, hi, rfl⟩ := List.mem_iff_getElem.1 hx
          obtain ⟨_, _, _, _, h4⟩ := hall i hi
          exact h4
    · cases hf
end
end Sh
end Go.Proofs.YtgngehfgcogceaaGreatDoor

end
section
/- Slices of flat elements: from their shape to the words of the walks. No program in sight. -/
namespace Go.Proofs.YtgngehfgcogceaaGreatDoor
open Go.RowKit
namespace Sh

def isFlat : Sh → Bool
  | .sl _ => false
  | .cons f r => f.isFlat && r.isFlat
  | _ => true
def flat : (s : Sh) → s.T → List Value
  | .int, n => [.int .i64 n]
  | .byte, b => [.int .u8 ((show UInt8 from b).toNat : Int)]
  | .bool, b => [.bool b]
  | .str, l => [.string ⟨(show List UInt8 from l).toArray⟩]
  | .cons f r, x => flat f (show f.T × r.T from x).1 ++ flat r (show f.T × r.T from x).2
  | _, _ => []
theorem flat_length : ∀ (s : Sh), s.isFlat = true → ∀ x, (flat s x).length = s.size
  | .int, _, _ => rfl
  | .byte, _, _ => rfl
  | .bool, _, _ => rfl
  | .str, _, _ => rfl
  | .nil, _, _ => rfl
  | .cons f r, h, x => by
    simp only [isFlat, Bool.and_eq_true] at h
    simp only [flat, size, List.length_append, flat_length f h.1, flat_length r h.2]
  | .sl _, h, _ => by cases h
theorem Holds.flat {w : World} : ∀ (s : Sh), s.isFlat = true → ∀ (cs : List Value) (x : s.T), Holds w s cs x → cs = Sh.flat s x
  | .int, _, _, _, h => h
  | .byte, _, _, _, h => h
  | .bool, _, _, _, h => h
  | .str, _, _, _, h => h
  | .nil, _, _, _, h => h
  | .sl _, hf, _, _, _ => by cases hf
  | .cons f r, hf, cs, x, h => by
    simp only [isFlat, Bool.and_eq_true] at hf
    obtain ⟨c1, c2, h1, _, h3, h4⟩ := h
    rw [h1, Holds.flat f hf.1 _ _ h3, Holds.flat r hf.2 _ _ h4]
    rfl

theorem flatMap_get {α β : Type} (g : α → List β) (n : Nat) (hn : 0 < n) : ∀ (l : List α), (∀ x ∈ l, (g x).length = n) → ∀ (j : Nat) (u : β), (l.flatMap g)[j]? = some u → ∃ (i : Nat) (h : i < l.length) (k : Nat), j = i * n + k ∧ (g l[i])[k]? = some u
  | [], _, _, _, h => by simp at h
  | x :: l, hl, j, u, h => by
    have hx := hl x (by simp)
    rw [List.flatMap_cons] at h
    by_cases hj : j < n
    · rw [List.getElem?_append_left (by omega)] at h
      exact ⟨0, by simp, j, by omega, h⟩
    · rw [List.getElem?_append_right (by omega), hx] at h
      obtain ⟨i, hi, k, h1, h2⟩ := flatMap_get g n hn l (fun y hy => hl y (by simp [hy])) _ u h
      refine ⟨i + 1, by simpa using hi, k, ?_, by simpa using h2⟩
      rw [Nat.add_mul]
      omega
theorem Holds.sl {w : World} {e : Sh} {v : Value} {l : List e.T} (hf : e.isFlat = true) (hpos : 0 < e.size) (h : Holds w (.sl e) [v] l) : ∃ oa cap, v = .slice oa l.length cap ∧ Sl w oa l.length cap e.size (l.flatMap (Sh.flat e)) := by
  obtain ⟨oa, cap, h1, h2, h3, h4⟩ := h
  have hlen : (l.flatMap (Sh.flat e)).length = l.length * e.size := by
    rw [List.length_flatMap]
    have : l.map (fun x => (Sh.flat e x).length) = List.replicate l.length e.size := by
      rw [List.eq_replicate_iff]
      refine ⟨by simp, fun b hb => ?_⟩
      obtain ⟨x, _, rfl⟩ := List.mem_map.1 hb
      exact flat_length e hf x
    rw [this]
    simp
  refine ⟨oa, cap, by simpa using h1, hlen, h2, h3, ?_⟩
  rcases h4 with h4 | ⟨b, off, g1, g2, g3⟩
  · left
    rw [show l = [] from h4]
    rfl
  · right
    refine ⟨b, off, g1, g2, fun j u hu => ?_⟩
    obtain ⟨i, hi, k, rfl, hk⟩ := flatMap_get (Sh.flat e) e.size hpos l (fun x _ => flat_length e hf x) j u hu
    obtain ⟨es, k1, k2, k3⟩ := g3 i hi
    have := k2 k u (by rw [Holds.flat e hf _ _ k3]; exact hk)
    rwa [Nat.add_assoc] at this

theorem Holds.ints {w : World} {v : Value} {l : List Int} (h : Holds w (.sl .int) [v] l) : ∃ oa cap, v = .slice oa l.length cap ∧ Sl w oa l.length cap 1 (intVals l) := by
  obtain ⟨oa, cap, h1, h2⟩ := Holds.sl rfl (by decide) h
  refine ⟨oa, cap, h1, ?_⟩
  have e : List.flatMap (Sh.flat .int) l = intVals l := by
    unfold intVals
    rw [List.map_eq_flatMap]
    rfl
  rw [e] at h2
  exact h2
theorem Holds.bytes {w : World} {v : Value} {l : List UInt8} (h : Holds w (.sl .byte) [v] l) : ∃ oa cap, v = .slice oa l.length cap ∧ Sl w oa l.length cap 1 (byteVals l) := by
  obtain ⟨oa, cap, h1, h2⟩ := Holds.sl rfl (by decide) h
  refine ⟨oa, cap, h1, ?_⟩
  have e : List.flatMap (Sh.flat .byte) l = byteVals l := by
    unfold byteVals
    rw [List.map_eq_flatMap]
    rfl
  rw [e] at h2
  exact h2
end Sh
end Go.Proofs.YtgngehfgcogceaaGreatDoor

end
section
/- Versions as they come in: their memory. -/
namespace Go.Proofs.YtgngehfgcogceaaGreatDoor
open Go.RowKit
namespace Sh
def toStrs (l : List (List UInt8)) : List ByteArray := l.map fun b => ⟨b.toArray⟩
abbrev ver : Sh := .cons .int (.cons .int (.cons .int (.cons (.sl .str) .nil)))
def toVer (x : ver.T) : Pl.Ver := ⟨x.1, x.2.1, x.2.2.1, toStrs x.2.2.2.1⟩
theorem Holds.strs {w : World} {v : Value} {l : List (List UInt8)} (h : Holds w (.sl .str) [v] l) : ∃ oa cap, v = .slice oa (toStrs l).length cap ∧ Sl w oa (toStrs l).length cap 1 (strVals (toStrs l)) := by
  obtain ⟨oa, cap, h1, h2⟩ := Holds.sl (e := .str) rfl (by decide) h
  have e : l.flatMap (Sh.flat .str) = strVals (toStrs l) := by
    clear h h1 h2
    induction l with
    | nil => rfl
    | cons a r ih => exact congrArg (List.cons (Value.string ⟨a.toArray⟩)) ih
  have hl : (toStrs l).length = l.length := by simp [toStrs]
  rw [e] at h2
  rw [hl]
  exact ⟨oa, cap, h1, h2⟩
theorem strs_ss {l : List (List UInt8)} (h : Sh.Wf (.sl .str) l) : ∀ s ∈ toStrs l, s.size ≤ 9223372036854775807 := fun s hs => by
  obtain ⟨b, hb, rfl⟩ := List.mem_map.1 hs
  have := h.2 b hb
  exact this
theorem ver_is {w : World} {cs : List Value} {x : ver.T} (h : Holds w ver cs x) (hw : ver.Wf x) : ∃ a c, cs = [.int .i64 (toVer x).maj, .int .i64 (toVer x).min, .int .i64 (toVer x).pat, .slice a (toVer x).pre.length c] ∧ VIn w (toVer x) a c := by
  obtain ⟨n, m, p, l, u⟩ := x
  obtain ⟨c1, c2, rfl, _, h1, c3, c4, rfl, _, h2, c5, c6, rfl, _, h3, c7, c8, rfl, _, h4, h5⟩ := h
  obtain ⟨_, _, _, w4, _⟩ := hw
  have h1 : c1 = [.int .i64 n] := h1
  have h2 : c3 = [.int .i64 m] := h2
  have h3 : c5 = [.int .i64 p] := h3
  have h5 : c8 = [] := h5
  have k5 : ∃ v, c7 = [v] := by obtain ⟨oa, cap, h, _⟩ := h4; exact ⟨_, h⟩
  obtain ⟨v, rfl⟩ := k5
  obtain ⟨oa, cap, rfl, hs⟩ := Holds.strs h4
  subst h1 h2 h3 h5
  exact ⟨oa, cap, rfl, hs, strs_ss w4⟩
end Sh
end Go.Proofs.YtgngehfgcogceaaGreatDoor

end
section
/- Lists of elements of several cells: from memory to one list of cells, and back. No program in sight. -/
namespace Go.Proofs.YtgngehfgcogceaaGreatDoor
open Go.RowKit

/-- The cells cs are those of the elements xs, sz cells each. -/
structure Elems {α : Type} (P : α → List Value → Prop) (sz : Nat) (xs : List α) (cs : List Value) : Prop where
  len : cs.length = xs.length * sz
  each : ∀ i (h : i < xs.length), P xs[i] ((cs.drop (i * sz)).take sz)
theorem Elems.nil {α : Type} {P : α → List Value → Prop} {sz : Nat} : Elems P sz ([] : List α) [] := ⟨by simp, fun i h => absurd h (by simp)⟩
theorem Elems.mono {α : Type} {P Q : α → List Value → Prop} {sz : Nat} {xs : List α} {cs : List Value} (h : Elems P sz xs cs) (hPQ : ∀ x c, P x c → Q x c) : Elems Q sz xs cs := ⟨h.len, fun i hi => hPQ _ _ (h.each i hi)⟩
theorem Elems.append {α : Type} {P : α → List Value → Prop} {sz : Nat} {xs ys : List α} {cs ds : List Value} (h : Elems P sz xs cs) (g : Elems P sz ys ds) : Elems P sz (xs ++ ys) (cs ++ ds) := by
  refine ⟨by rw [List.length_append, List.length_append, h.len, g.len, Nat.add_mul], fun i hi => ?_⟩
  by_cases hx : i < xs.length
  · rw [List.getElem_append_left hx]
    have := h.each i hx
    have hle : i * sz + sz ≤ cs.length := by
      rw [h.len, ← Nat.succ_mul]
      exact Nat.mul_le_mul_right _ hx
    rw [List.drop_append_of_le_length (by omega), List.take_append_of_le_length (by rw [List.length_drop]; omega)]
    exact this
  · have hx : xs.length ≤ i := by omega
    have hi2 : i - xs.length < ys.length := by rw [List.length_append] at hi; omega
    rw [List.getElem_append_right hx]
    have := g.each (i - xs.length) hi2
    have e : i * sz = cs.length + (i - xs.length) * sz := by rw [h.len, ← Nat.add_mul]; congr 1; omega
    rw [e, List.drop_append]
    rw [List.drop_of_length_le (by omega), List.nil_append]
    rw [show cs.length + (i - xs.length) * sz - cs.length = (i - xs.length) * sz by omega]
    exact this
theorem Elems.one {α : Type} {P : α → List Value → Prop} {sz : Nat} {x : α} {cs : List Value} (h : P x cs) (hl : cs.length = sz) : Elems P sz [x] cs := by
  refine ⟨by simp [hl], fun i hi => ?_⟩
  have : i = 0 := by simpa using hi
  subst this
  rw [Nat.zero_mul, List.drop_zero, List.take_of_length_le (by omega)]
  exact h
/-- Out of memory. -/
theorem Elems.of {α : Type} {P : α → List Value → Prop} {sz : Nat} (hP : ∀ x cs, P x cs → cs.length = sz) {w : World} {b : Nat} : ∀ (xs : List α) (off : Nat), (∀ i (h : i < xs.length), ∃ cs, P xs[i] cs ∧ ∀ j u, cs[j]? = some u → w.cell? ⟨b, off + i * sz + j, none⟩ = some u) →
    ∃ cs, Elems P sz xs cs ∧ ∀ j u, cs[j]? = some u → w.cell? ⟨b, off + j, none⟩ = some u
  | [], _, _ => ⟨[], Elems.nil, fun j u h => by simp at h⟩
  | x :: xs, off, h => by
    obtain ⟨c0, h1, h2⟩ := h 0 (by simp)
    have hl := hP _ _ h1
    obtain ⟨cs, g1, g2⟩ := Elems.of hP (w := w) (b := b) xs (off + sz) fun i hi => by
      obtain ⟨ci, k1, k2⟩ := h (i + 1) (by simpa using hi)
      refine ⟨ci, by simpa using k1, fun j u hu => ?_⟩
      have := k2 j u hu
      rwa [show off + (i + 1) * sz + j = off + sz + i * sz + j by rw [Nat.succ_mul]; omega] at this
    refine ⟨c0 ++ cs, Elems.append (Elems.one h1 hl) g1, fun j u hu => ?_⟩
    by_cases hj : j < c0.length
    · rw [List.getElem?_append_left hj] at hu
      have := h2 j u hu
      simpa using this
    · rw [List.getElem?_append_right (by omega)] at hu
      have := g2 (j - c0.length) u hu
      rwa [show off + sz + (j - c0.length) = off + j by omega] at this
/-- Back into memory. -/
theorem Elems.cells {α : Type} {P : α → List Value → Prop} {sz : Nat} {xs : List α} {cs : List Value} (h : Elems P sz xs cs) {w : World} {b off : Nat} (hc : ∀ j u, cs[j]? = some u → w.cell? ⟨b, off + j, none⟩ = some u) :
    ∀ i (hi : i < xs.length), ∃ es, P xs[i] es ∧ ∀ j u, es[j]? = some u → w.cell? ⟨b, off + i * sz + j, none⟩ = some u := by
  intro i hi
  refine ⟨_, h.each i hi, fun j u hu => ?_⟩
  rw [List.getElem?_take] at hu
  split at hu
  · rw [List.getElem?_drop] at hu
    have := hc _ u hu
    rwa [← Nat.add_assoc] at this
  · cases hu
end Go.Proofs.YtgngehfgcogceaaGreatDoor

end
