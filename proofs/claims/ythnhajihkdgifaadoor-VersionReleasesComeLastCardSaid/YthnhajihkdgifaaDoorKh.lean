/- What came in, read by its shape: integers, bytes, truth values, strings, slices and structs of these. No program in sight. -/
import Derived.Test.YthnhajihkdgifaaDoorKd
import Derived.Deep.Slices
namespace Go.Proofs.YthnhajihkdgifaaDoor
open Go.RowKit

/-- The shape of a datum; a struct is a chain of its fields. -/
inductive Sh where
  | int | byte | bool | str
  | sl (e : Sh)
  | nil
  | cons (f rest : Sh)

namespace Sh
def size : Sh → Nat
  | .nil => 0
  | .cons f r => f.size + r.size
  | _ => 1
def T : Sh → Type
  | .int => Int
  | .byte => UInt8
  | .bool => Bool
  | .str => List UInt8
  | .sl e => List e.T
  | .nil => Unit
  | .cons f r => f.T × r.T
/-- The integers lie in their range, lengths are lengths. -/
def Wf : (s : Sh) → s.T → Prop
  | .int, n => -9223372036854775808 ≤ (show Int from n) ∧ (show Int from n) ≤ 9223372036854775807
  | .str, l => (show List UInt8 from l).length ≤ 9223372036854775807
  | .sl e, l => (show List e.T from l).length ≤ 9223372036854775807 ∧ ∀ x ∈ (show List e.T from l), e.Wf x
  | .cons f r, x => f.Wf (show f.T × r.T from x).1 ∧ r.Wf (show f.T × r.T from x).2
  | _, _ => True
/-- The cells cs are the datum, in w. -/
def Holds (w : World) : (s : Sh) → List Value → s.T → Prop
  | .int, cs, n => cs = [.int .i64 n]
  | .byte, cs, b => cs = [.int .u8 ((show UInt8 from b).toNat : Int)]
  | .bool, cs, b => cs = [.bool b]
  | .str, cs, l => cs = [.string ⟨(show List UInt8 from l).toArray⟩]
  | .sl e, cs, l => ∃ oa cap, cs = [.slice oa (show List e.T from l).length cap] ∧ (show List e.T from l).length ≤ cap ∧ cap ≤ maxLen ∧
      ((show List e.T from l) = [] ∨ ∃ b off, oa = some ⟨b, off, none⟩ ∧ b < w.heap.size ∧
        ∀ i (h : i < (show List e.T from l).length), ∃ es : List Value, es.length = e.size ∧ (∀ j u, es[j]? = some u → w.cell? ⟨b, off + i * e.size + j, none⟩ = some u) ∧ Holds w e es (show List e.T from l)[i])
  | .nil, cs, _ => cs = []
  | .cons f r, cs, x => ∃ c1 c2, cs = c1 ++ c2 ∧ c1.length = f.size ∧ Holds w f c1 (show f.T × r.T from x).1 ∧ Holds w r c2 (show f.T × r.T from x).2

theorem Holds.below {w w' : World} {B : Nat} (hb : Below B w w') (hB : w.heap.size ≤ B) : ∀ (s : Sh) (cs : List Value) (x : s.T), Holds w s cs x → Holds w' s cs x
  | .int, _, _, h => h
  | .byte, _, _, h => h
  | .bool, _, _, h => h
  | .str, _, _, h => h
  | .nil, _, _, h => h
  | .cons f r, _, _, ⟨c1, c2, h1, h2, h3, h4⟩ => ⟨c1, c2, h1, h2, Holds.below hb hB f _ _ h3, Holds.below hb hB r _ _ h4⟩
  | .sl e, _, _, ⟨oa, cap, h1, h2, h3, h4⟩ => by
    refine ⟨oa, cap, h1, h2, h3, ?_⟩
    rcases h4 with h | ⟨b, off, g1, g2, g3⟩
    · exact .inl h
    · refine .inr ⟨b, off, g1, Nat.lt_of_lt_of_le g2 hb.size, fun i hi => ?_⟩
      obtain ⟨es, k1, k2, k3⟩ := g3 i hi
      exact ⟨es, k1, fun j u hu => (hb.cell (p := ⟨b, off + i * e.size + j, none⟩) (Nat.lt_of_lt_of_le g2 hB)).trans (k2 j u hu), Holds.below hb hB e _ _ k3⟩

/-- The type t (or the fields l from the cell o on) has the shape. -/
def fitsB (P : Program) : Sh → TypeId ⊕ (List Field × Nat) → Bool
  | .int, .inl t => match P.underlying t with | some (.int .i64) => true | _ => false
  | .byte, .inl t => match P.underlying t with | some (.int .u8) => true | _ => false
  | .bool, .inl t => match P.underlying t with | some .bool => true | _ => false
  | .str, .inl t => match P.underlying t with | some .string => true | _ => false
  | .sl e, .inl t => match P.underlying t with | some (.slice e') => P.cellsOf e' == e.size && e.size != 0 && fitsB P e (.inl e') | _ => false
  | .nil, .inl t => match P.underlying t with | some (.struct fs) => fs.size == 0 && P.cellsOf t == 0 | _ => false
  | .cons f r, .inl t => match P.underlying t with
    | some (.struct fs) => P.cellsOf t == f.size + r.size && (match fs.toList with
      | fd :: l => fd.offset == 0 && P.cellsOf fd.type == f.size && fitsB P f (.inl fd.type) && fitsB P r (.inr (l, f.size))
      | [] => false)
    | _ => false
  | .nil, .inr x => x.1.isEmpty
  | .cons f r, .inr x => match x.1 with
    | fd :: l => fd.offset == x.2 && P.cellsOf fd.type == f.size && fitsB P f (.inl fd.type) && fitsB P r (.inr (l, x.2 + f.size))
    | [] => false
  | _, .inr _ => false

theorem wf_i64 {n : Int} (h : (Lit.int .i64 n).wf = true) : -9223372036854775808 ≤ n ∧ n ≤ 9223372036854775807 := by
  have := bounds_i64 h
  omega

section
variable {H : Type} {enc : TypeId × Value → H} {P : Program} {w : World} {sp : Nat → Bool} {hd : Bool}
theorem open_sh : ∀ (s : Sh),
    (∀ (t : TypeId) (fuel : Nat) (cs : List Value) (x : DataW H × List MemPlace), fitsB P s (.inl t) = true → DataW.trod enc P w 0 sp hd fuel t cs = some x → ∃ d : s.T, Holds w s cs d ∧ s.Wf d) ∧
    (∀ (l : List Field) (o n : Nat) (cs : List Value) (ys : List (DataW H × List MemPlace)), fitsB P s (.inr (l, o)) = true → cs.length = o + s.size → ys.length = l.length →
      (∀ (i : Nat) (f : Field), l[i]? = some f → DataW.trod enc P w 0 sp hd n f.type ((cs.drop f.offset).take (P.cellsOf f.type)) = ys[i]?) → ∃ d : s.T, Holds w s (cs.drop o) d ∧ s.Wf d)
  | .int => by
    refine ⟨fun t fuel cs x hf h => ?_, fun l o n cs ys hf => by simp [fitsB] at hf⟩
    simp only [fitsB] at hf
    split at hf
    · rename_i ht
      obtain ⟨n, h1, _, h3⟩ := DataW.trod_int ht h
      exact ⟨n, h1, wf_i64 h3⟩
    · cases hf
  | .byte => by
    refine ⟨fun t fuel cs x hf h => ?_, fun l o n cs ys hf => by simp [fitsB] at hf⟩
    simp only [fitsB] at hf
    split at hf
    · rename_i ht
      obtain ⟨n, h1, _, h3⟩ := DataW.trod_int ht h
      refine ⟨UInt8.ofNat n.toNat, ?_, trivial⟩
      show cs = [.int .u8 ((UInt8.ofNat n.toNat).toNat : Int)]
      rw [u8_of h3]
      exact h1
    · cases hf
  | .bool => by
    refine ⟨fun t fuel cs x hf h => ?_, fun l o n cs ys hf => by simp [fitsB] at hf⟩
    simp only [fitsB] at hf
    split at hf
    · rename_i ht
      obtain ⟨b, h1, _⟩ := DataW.trod_bool ht h
      exact ⟨b, h1, trivial⟩
    · cases hf
  | .str => by
    refine ⟨fun t fuel cs x hf h => ?_, fun l o n cs ys hf => by simp [fitsB] at hf⟩
    simp only [fitsB] at hf
    split at hf
    · rename_i ht
      obtain ⟨b, h1, _, h3⟩ := DataW.trod_string ht h
      refine ⟨b.data.toList, ?_, ?_⟩
      · show cs = [.string ⟨b.data.toList.toArray⟩]
        rw [h1]
      · show b.data.toList.length ≤ 9223372036854775807
        have : b.data.toList.length = b.size := rfl
        rw [this]
        unfold maxLen at h3
        omega
    · cases hf
  | .nil => by
    refine ⟨fun t fuel cs x hf h => ?_, fun l o n cs ys hf hl _ _ => ⟨(), ?_, trivial⟩⟩
    · simp only [fitsB] at hf
      split at hf
      · rename_i fs ht
        simp only [Bool.and_eq_true, beq_iff_eq] at hf
        obtain ⟨_, _, _, _, hc, _⟩ := DataW.trod_struct ht h
        exact ⟨(), List.eq_nil_of_length_eq_zero (hc.trans hf.2), trivial⟩
      · cases hf
    · show cs.drop o = []
      exact List.drop_of_length_le (by rw [hl]; show o + 0 ≤ o; omega)
  | .cons f r => by
    have tail : ∀ (fd : Field) (l : List Field) (o n : Nat) (cs : List Value) (ys : List (DataW H × List MemPlace)), fd.offset = o → P.cellsOf fd.type = f.size → fitsB P f (.inl fd.type) = true → fitsB P r (.inr (l, o + f.size)) = true →
        cs.length = o + (f.size + r.size) → ys.length = l.length + 1 →
        (∀ (i : Nat) (g : Field), (fd :: l)[i]? = some g → DataW.trod enc P w 0 sp hd n g.type ((cs.drop g.offset).take (P.cellsOf g.type)) = ys[i]?) → ∃ d : (Sh.cons f r).T, Holds w (.cons f r) (cs.drop o) d ∧ (Sh.cons f r).Wf d := by
      intro fd l o n cs ys h1 h2 h3 h4 h5 h6 h7
      have e0 := h7 0 fd rfl
      match ys, h6 with
      | y :: ys, h6 =>
        rw [h1, h2] at e0
        obtain ⟨x, hx, hxw⟩ := (open_sh f).1 fd.type n _ y h3 e0
        obtain ⟨z, hz, hzw⟩ := (open_sh r).2 l (o + f.size) n cs ys h4 (by omega) (by simpa using h6) (fun i g hg => by simpa using h7 (i + 1) g (by simpa using hg))
        refine ⟨(x, z), ⟨(cs.drop o).take f.size, cs.drop (o + f.size), ?_, ?_, hx, hz⟩, hxw, hzw⟩
        · rw [← List.drop_drop, List.take_append_drop]
        · rw [List.length_take, List.length_drop]; omega
    refine ⟨fun t fuel cs x hf h => ?_, fun l o n cs ys hf hl hy hall => ?_⟩
    · simp only [fitsB] at hf
      split at hf
      · rename_i fs ht
        simp only [Bool.and_eq_true, beq_iff_eq] at hf
        obtain ⟨hsz, hf⟩ := hf
        obtain ⟨ys, n, _, _, hc, hyl, hall⟩ := DataW.trod_struct ht h
        split at hf
        · rename_i fd l hfs
          simp only [Bool.and_eq_true, beq_iff_eq] at hf
          obtain ⟨⟨⟨g1, g2⟩, g3⟩, g4⟩ := hf
          have := tail fd l 0 n cs ys g1 g2 g3 (by simpa using g4) (by rw [hc, hsz]; omega) (by
            rw [hyl, ← Array.length_toList, hfs]; rfl) (fun i g hg => hall i g (by rw [← Array.getElem?_toList, hfs]; exact hg))
          simpa using this
        · cases hf
      · cases hf
    · simp only [fitsB] at hf
      split at hf
      · rename_i fd l'
        simp only [Bool.and_eq_true, beq_iff_eq] at hf
        obtain ⟨⟨⟨g1, g2⟩, g3⟩, g4⟩ := hf
        exact tail fd l' o n cs ys g1 g2 g3 g4 hl (by simpa using hy) hall
      · cases hf
  | .sl e => by
    refine ⟨fun t fuel cs x hf h => ?_, fun l o n cs ys hf => by simp [fitsB] at hf⟩
    simp only [fitsB] at hf
    split at hf
    · rename_i e' ht
      simp only [Bool.and_eq_true, beq_iff_eq, bne_iff_ne] at hf
      obtain ⟨⟨hC, hpos⟩, hfe⟩ := hf
      rcases Deep.open_slice ht h with ⟨rfl, _⟩ | ⟨a, len, cap, m, n, D, Pl, rfl, _, hl, hm, hmm, _, hx⟩
      · exact ⟨([] : List e.T), ⟨none, 0, rfl, Nat.le_refl _, Nat.zero_le _, .inl rfl⟩, Nat.zero_le _, fun x hx => by cases hx⟩
      · have hlm : len ≤ m := by rw [hmm]; split <;> omega
        have each : ∀ i, i < len → ∃ (es : List Value) (d : e.T), es.length = e.size ∧ (∀ j u, es[j]? = some u → w.cell? ((a.add (i * e.size)).add j) = some u) ∧ Holds w e es d ∧ e.Wf d := by
          intro i hi
          obtain ⟨es, h1, h2⟩ := hx i (by omega)
          rw [hC] at h1
          obtain ⟨_, h3, h4⟩ := World.cells?_some h1
          obtain ⟨d, hd1, hd2⟩ := (open_sh e).1 e' n es _ hfe h2
          refine ⟨es, d, h3, fun j u hu => ?_, hd1, hd2⟩
          rw [h4 j (by have := (List.getElem?_eq_some_iff.1 hu).1; omega)]
          exact hu
        have ex : ∀ k, k ≤ len → ∃ L : List e.T, L.length = k ∧ ∀ i (h : i < L.length), ∃ es : List Value, es.length = e.size ∧ (∀ j u, es[j]? = some u → w.cell? ((a.add (i * e.size)).add j) = some u) ∧ Holds w e es L[i] ∧ e.Wf L[i] := by
          intro k
          induction k with
          | zero => intro _; exact ⟨[], rfl, fun i h => by simp at h⟩
          | succ k ih =>
            intro hk
            obtain ⟨L, h1, h2⟩ := ih (by omega)
            obtain ⟨es, d, h3⟩ := each k (by omega)
            refine ⟨L ++ [d], by simp [h1], fun i hi => ?_⟩
            by_cases hik : i < L.length
            · rw [List.getElem_append_left hik]; exact h2 i hik
            · have : i = L.length := by simp at hi; omega
              subst this
              rw [List.getElem_append_right (Nat.le_refl _)]
              simp only [Nat.sub_self, List.getElem_cons_zero]
              rw [h1]
              exact ⟨es, h3⟩
        obtain ⟨L, hL, hall⟩ := ex len (Nat.le_refl _)
        refine ⟨L, ⟨some a, cap, by rw [← hL], by rw [hL]; exact hl, hm, ?_⟩, ?_, ?_⟩
        · rcases Nat.eq_zero_or_pos len with h0 | h0
          · exact .inl (List.eq_nil_of_length_eq_zero (hL.trans h0))
          · right
            obtain ⟨es, h1, h2, _⟩ := hall 0 (by omega)
            have hc0 : w.cell? ((a.add (0 * e.size)).add 0) = some (es[0]'(by omega)) := h2 0 _ (List.getElem?_eq_getElem (by omega))
            have ha : (a.add (0 * e.size)).add 0 = a := by simp [Addr.add]
            rw [ha] at hc0
            have hsp := spot_none hc0
            refine ⟨a.block, a.off, by rw [← hsp], World.block_lt_of_cell? w _ hc0, fun i hi => ?_⟩
            obtain ⟨es, k1, k2, k3, _⟩ := hall i hi
            refine ⟨es, k1, fun j u hu => ?_, k3⟩
            have := k2 j u hu
            rw [hsp, addr_add, addr_add] at this
            exact this
        · show L.length ≤ _
          rw [hL]
          unfold maxLen at hm
          omega
        · intro x hx
          obtain ⟨i, hi, rfl⟩ := List.mem_iff_getElem.1 hx
          obtain ⟨_, _, _, _, h4⟩ := hall i hi
          exact h4
    · cases hf
end
end Sh
end Go.Proofs.YthnhajihkdgifaaDoor
