/- The mark of a literal's row, wherever the row lies. No program in sight. -/
import Derived.Test.YtplcbhcbahiheaaKf
import Derived.Lib.SlBytesConst
namespace Go.Proofs.Ytplcbhcbahiheaa
open Go.RowKit

/-- The row of new block b holds C, and carries no mark but a literal's. -/
def LitRow (w : World) (b : Nat) (C : Array Value) (e : TypeId) : Prop := ∃ fr : Nat × Nat, w.heap[b]? = some (Obj.cells C e fr) ∧ (fr.1 = fr.2 ∨ fr = (C.size, C.size + 1))
theorem LitRow.under {w w' : World} {b : Nat} {C : Array Value} {e : TypeId} (h : LitRow w b C e) (hx : Ext w w') : LitRow w' b C e := by
  obtain ⟨fr, h1, h2⟩ := h
  obtain ⟨fr', g1, g2⟩ := hx.row _ _ _ _ h1
  refine ⟨fr', g1, ?_⟩
  rcases g2 with rfl | ⟨_, rfl⟩
  · exact h2
  · exact .inr rfl
theorem LitRow.new (w : World) (C : Array Value) (e : TypeId) : LitRow (w.alloc (Obj.cells C e)) w.heap.size C e := ⟨(0, 0), by show (w.heap.push _)[w.heap.size]? = _; simp, .inl rfl⟩

theorem LitRow.sl {w : World} {b n cap sz : Nat} {C : List Value} {e : TypeId} (h : LitRow w b C.toArray e) (hl : C.length = n * sz) (hcap : n ≤ cap) (hm : cap ≤ maxLen) : Sl w (some ⟨b, 0, none⟩) n cap sz C := by
  obtain ⟨fr, h1, _⟩ := h
  refine ⟨hl, hcap, hm, .inr ⟨b, 0, rfl, ?_, fun j u hu => ?_⟩⟩
  · rcases Nat.lt_or_ge b w.heap.size with h' | h'
    · exact h'
    · simp [Array.getElem?_eq_none h'] at h1
  · unfold World.cell?
    simp only [h1]
    simpa using hu
def Hold.lit (B n : Nat) (C : List Value) (e : TypeId) : Hold := ⟨fun u w => ∃ b, u = .slice (some ⟨b, 0, none⟩) n n ∧ B ≤ b ∧ LitRow w b C.toArray e, fun _ _ _ ⟨b, h1, h2, h3⟩ hx => ⟨b, h1, h2, h3.under hx⟩⟩

theorem run_mark {P : Program} {t e : TypeId} (ht : P.underlying t = some (.slice e)) (he : P.underlying e = some (.int .u8)) {w : World} {b n c : Nat} {C : Array Value} {e' : TypeId} (h : LitRow w b C e') :
    ∃ w', (convert t t (.slice (some ⟨b, 0, none⟩) n c)).run P w = .ok (.slice (some ⟨b, 0, none⟩) n c) w' ∧ Ext w w' ∧ ∀ B w0, B ≤ b → Below B w0 w → Below B w0 w' := by
  obtain ⟨fr, h1, h2⟩ := h
  have hsh : w.shape? b = some (e', C.size) := by unfold World.shape?; rw [h1]
  refine ⟨w.freeze ⟨b, C.size, none⟩ 1, ?_, ?_, ?_⟩
  · simp [convert, run_underlying ht, run_underlying he, markStringish, hsh]
  · refine ⟨by simp [World.freeze], fun k C2 e2 fr2 hk => ?_⟩
    unfold World.freeze
    rw [if_neg (by decide)]
    show ∃ fr', (w.heap.modify b _)[k]? = _ ∧ _
    rw [Array.getElem?_modify]
    by_cases hkb : b = k
    · subst hkb
      rw [h1] at hk
      cases hk
      simp only [if_true, h1]
      refine ⟨_, rfl, ?_⟩
      obtain ⟨lo, hi⟩ := fr
      rcases h2 with h2 | h2
      · simp only at h2
        subst h2
        simp
      · cases h2
        simp
    · simp only [hkb, if_false, hk]
      exact ⟨_, by simp, .inl rfl⟩
  · intro B w0 hB hb
    refine hb.trans ⟨rfl, rfl, rfl, by simp [World.freeze], fun k hk => ?_⟩
    unfold World.freeze
    rw [if_neg (by decide)]
    refine Array.getElem?_modify.trans ?_
    rw [if_neg (by show ¬ b = k; omega)]
theorem run_convert_lit {P : Program} {t e : TypeId} (w : World) (C : Array Value) (n c : Nat) {k : Nat} (hk : k = w.heap.size) (ht : P.underlying t = some (.slice e)) (he : P.underlying e = some (.int .u8)) :
    (convert t t (.slice (some ⟨k, 0, none⟩) n c)).run P (w.alloc (.cells C e)) = .ok (.slice (some ⟨k, 0, none⟩) n c) (w.alloc (.cells C e (C.size, C.size + 1))) := by
  subst hk
  exact Lib.run_convert_bytes_const w t e C n c ht he
end Go.Proofs.Ytplcbhcbahiheaa
