/- Texts joined. -/
import Derived.Test.YtolfgcoalihmgaaGreatDoorMBi
import Derived.Test.YtolfgcoalihmgaaGreatDoorMBe
import Derived.Lib.ConvBytes
namespace Go.Proofs.YtolfgcoalihmgaaGreatDoor
section
open Go.RowKit
set_option maxRecDepth 100000 in
theorem Tryz.tStrs : ElemT Tryz.prog 22 9 1 16 := ⟨Tryz.underlying22, ⟨_, _, rfl, rfl, rfl, rfl, rfl⟩, by decide, by decide⟩
theorem ownsRow_far {w : World} {base : Nat} {e : TypeId} {size : Nat} {v : Value} {n : Nat} {xs : List Value} (h : w.ownsRow base e size v n xs) {a : Addr} (ha : a.block < base) (u : Value) : (w.setCell a u).ownsRow base e size v n xs := by
 refine ⟨h.1, ?_⟩
 rcases h.2 with hn | ⟨g, cap, cur, rfl, hbg, hgg, rest⟩
 · exact .inl hn
 · exact .inr ⟨g, cap, cur, rfl, hbg, (Below.heap_setCell _ _ _ _ (by omega)).trans hgg, rest⟩
theorem VIn.zero (w : World) : VIn w Pl.Ver.zero none 0 := ⟨⟨by simp [Pl.Ver.zero, strVals], nle, Nat.zero_le _, .inl rfl⟩, fun s hs => by cases hs⟩
def RVer (v : Pl.Ver) (w : World) (e : Ending) (w' : World) : Prop := ∃ a c, e = .returned (verV v a c) ∧ VIn w' v a c ∧ Below w.heap.size w w'
def RVerF (v : Pl.Ver) (F : Int × Int) (w : World) (e : Ending) (w' : World) : Prop := ∃ a c, e = .returned (.tuple #[verV v a c, fltV F]) ∧ VIn w' v a c ∧ Below w.heap.size w w'
theorem VIn.own {w : World} {v : Pl.Ver} {base n cap : Nat} {oa : Option Addr} (hn : v.pre.length = n) (h : w.ownsRow base 9 1 (.slice oa n cap) n (strVals v.pre)) (hs : ∀ s ∈ v.pre, s.size ≤ 9223372036854775807) : VIn w v oa cap := by
 subst hn
 exact ⟨Sl.own h, hs⟩
theorem ver_at (a b d : Int) (w : World) : Calls Tryz.prog 70 #[.int .i64 a, .int .i64 b, .int .i64 d] w fun e w' => e = .returned (verV ⟨a, b, d, []⟩ none 0) ∧ w' = w.alloc (.cells #[.int .i64 a, .int .i64 b, .int .i64 d, .slice none 0 0] 24) := by
 go_enter Tryz.func70, Tryz.ntmps70
 go_wp2
 go_returns
 exact ⟨rfl, rfl⟩
theorem pre_at (a b d : Int) (s : ByteArray) (w : World) : Calls Tryz.prog 71 #[.int .i64 a, .int .i64 b, .int .i64 d, .string s] w fun e w' => e = .returned (verV ⟨a, b, d, [s]⟩ (some ⟨w.heap.size + 1, 0, none⟩) 1) ∧ w' = (w.alloc (.cells #[.int .i64 a, .int .i64 b, .int .i64 d, .slice (some ⟨w.heap.size + 1, 0, none⟩) 1 1] 24)).alloc (.cells #[.string s] 9) := by
 go_enter Tryz.func71, Tryz.ntmps71
 go_wp2
 go_returns
 exact ⟨rfl, rfl⟩
theorem VIn.pre {w : World} {a b d : Int} {s : ByteArray} (hs : s.size ≤ 9223372036854775807) {B : Nat} {w' : World} (o : Obj) (hb : Below B ((w.alloc o).alloc (.cells #[.string s] 9)) w') (hB : w.heap.size + 2 ≤ B) : VIn w' ⟨a, b, d, [s]⟩ (some ⟨w.heap.size + 1, 0, none⟩) 1 :=
 VIn.below (w := (w.alloc o).alloc (.cells #[.string s] 9)) ⟨Sl.fresh (C := strVals [s]) (by simp) rfl nle (by unfold maxLen; simp), fun x hx => by rw [List.mem_singleton.1 hx]; exact hs⟩ hb (by simp; omega)
namespace Pl
theorem next_len (v : Ver) : (verNext v).pre.length = v.pre.length + 1 := by unfold verNext; simp
theorem next_ss {v : Ver} (h : ∀ s ∈ v.pre, s.size ≤ 9223372036854775807) : ∀ s ∈ (verNext v).pre, s.size ≤ 9223372036854775807 := fun s hs => by
 rcases List.mem_append.1 hs with h1 | h1
 · exact h s h1
 · rw [List.mem_singleton.1 h1]; decide
end Pl
set_option maxHeartbeats 2000000 in
theorem VersionNext_any (v : Pl.Ver) (a : Option Addr) (c : Nat) (w : World) (h : VIn w v a c) (ok : v.Ok) :
 Calls Tryz.prog 152 #[verV v a c] w (RVer (Pl.verNext v) w) := by
 have H := Hd h
 have hn := ok.n
 have hp := Pl.inT ok.m3
 have hss := h.ss
 clear h ok
 have src : ∀ W : World, Below w.heap.size w W → Src Tryz.prog 1 22 (.slice a v.pre.length c) v.pre.length (strVals v.pre) W := fun W hb => Src.ofSl (P := Tryz.prog) Tryz.underlying22 (H.out.sl.bl hb) (by decide) (strVals_one _)
 replace src := Hd src
 have hlen := Hd (show (strVals v.pre).length = v.pre.length from strVals_length _)
 by_cases p1 : v.pre.length = 0
 · have q1 : ((v.pre.length : Int) == 0) = true := beqT (by omega)
   have HP := Hd (show (Pl.verNext v).pat = v.pat + 1 by unfold Pl.verNext; simp [p1])
   clear p1
   have tok : True := trivial
   go_enter Tryz.func152, Tryz.ntmps152
   go_wp2_with (first | (at_builtin; have _t := tok; clear _t; clear tok; go_loud (refine ap (by rfl) (by rfl) Tryz.tStrs (Below.refl (w.heap.size + 3) _) (by rfl) (World.ownsRow_nil _ _ _ _) (m := v.pre.length) (by exact src.out _ (by go_grown)) (by omega) (by simp) ?_); intro v1 w1 own1 b1 s1; obtain ⟨o1, c1, rfl⟩ := own_slice own1; rw [Nat.zero_add] at own1; have OB1 : Blk w1 (w.heap.size + 1 + 1) [.int .i64 v.maj, .int .i64 v.min, .int .i64 (v.pat + 1), .slice none 0 0] := (Blk.new _ _ 24 (by simp)).below b1 (by simp); have RB1 : Blk w1 (w.heap.size + 1) [.int .i64 0, .int .i64 0, .int .i64 0, .slice none 0 0] := ((Blk.new _ _ 24 (by simp)).alloc _).below b1 (by simp); have OB2 : Blk (w1.setCell ⟨w.heap.size + 1 + 1, 3, none⟩ (.slice o1 v.pre.length c1)) (w.heap.size + 1 + 1) [.int .i64 v.maj, .int .i64 v.min, .int .i64 (v.pat + 1), .slice o1 v.pre.length c1] := OB1.st 3 _; have RB2 : Blk (w1.setCell ⟨w.heap.size + 1 + 1, 3, none⟩ (.slice o1 v.pre.length c1)) (w.heap.size + 1) [.int .i64 0, .int .i64 0, .int .i64 0, .slice none 0 0] := RB1.far (by simp) _; have own2 := ownsRow_far own1 (a := ⟨w.heap.size + 1 + 1, 3, none⟩) (by show w.heap.size + 1 + 1 < w.heap.size + 3; omega) (.slice o1 v.pre.length c1); have e0 := OB1.c 3 _ rfl; have e1 := OB1.f 3 (by simp); have e2 := OB1.lt; have e3 := OB2.c 3 _ rfl; have e4 := OB2.f 3 (by simp); simp at s1; have B1 : Below w.heap.size w w1 := bcall (by go_grown) b1 (by omega)) | (at_builtin; go_loud (refine ap1 (by rfl) (by rfl) Tryz.tStrs (Below.refl (w.heap.size + 3) _) (by rfl) own2 (m := 1) (C := [.string Pl.zeroId]) (by rw [World.size_setCell]; rfl) (by rfl) (by rfl) (by omega) (by simp; omega) ?_); intro v2 w2 own3 b2 s2; obtain ⟨o2, c2, rfl⟩ := own_slice own3; have B2 : Below w.heap.size w w2 := bcall (B1.setCell (by show w.heap.size ≤ w.heap.size + 1 + 1; omega) _) b2 (by omega); have OB3 := OB2.below b2 (by omega); have RB3 := RB2.below b2 (by omega); clear OB1 RB1 OB2 RB2 e0 e1 e2 e3 e4; have OB4 : Blk (w2.setCell ⟨w.heap.size + 1 + 1, 3, none⟩ (.slice o2 (v.pre.length + 1) c2)) (w.heap.size + 1 + 1) [.int .i64 v.maj, .int .i64 v.min, .int .i64 (v.pat + 1), .slice o2 (v.pre.length + 1) c2] := OB3.st 3 _; have RB4 : Blk (w2.setCell ⟨w.heap.size + 1 + 1, 3, none⟩ (.slice o2 (v.pre.length + 1) c2)) (w.heap.size + 1) [.int .i64 0, .int .i64 0, .int .i64 0, .slice none 0 0] := RB3.far (by simp) _; have e0 := OB3.c 3 _ rfl; have e1 := OB3.f 3 (by simp); have e2 := OB3.lt; have e3 := OB4.c 0 _ rfl; have e4 := OB4.c 1 _ rfl; have e5 := OB4.c 2 _ rfl; have e6 := OB4.c 3 _ rfl; have g0 := RB4.c 0 _ rfl; have g1 := RB4.c 1 _ rfl; have g2 := RB4.c 2 _ rfl; have g3 := RB4.c 3 _ rfl; have k0 := RB4.f 0 (by simp); have k1 := RB4.f 1 (by simp); have k2 := RB4.f 2 (by simp); have k3 := RB4.f 3 (by simp); have g4 := RB4.lt))
   have RB5 := (((RB4.st 0 (.int .i64 v.maj)).st 1 (.int .i64 v.min)).st 2 (.int .i64 (v.pat + 1))).st 3 (.slice o2 (v.pre.length + 1) c2)
   have h0 := RB5.c 0 _ rfl
   have h1 := RB5.c 1 _ rfl
   have h2 := RB5.c 2 _ rfl
   have h3 := RB5.c 3 _ rfl
   refine bodyPost_ret (v := .agg #[.int .i64 v.maj, .int .i64 v.min, .int .i64 (v.pat + 1), .slice o2 (v.pre.length + 1) c2]) (by simp [results, Tryz.results152, go_sem, h0, h1, h2, h3]) rfl ⟨o2, c2, ?_, VIn.own (base := w.heap.size + 3) (Pl.next_len v) ?_ (Pl.next_ss hss), ?_⟩
   · rw [verV, HP.out, Pl.next_len]; rfl
   · have E : strVals (Pl.verNext v).pre = strVals v.pre ++ [.string Pl.zeroId] := strVals_append _ _
     rw [E]
     exact ownsRow_far (ownsRow_far (ownsRow_far (ownsRow_far (ownsRow_far own3 (by simp) _) (by simp) _) (by simp) _) (by simp) _) (by simp) _
   · go_grown
 · have q1 : ((v.pre.length : Int) == 0) = false := beqF (by omega)
   have HP := Hd (show (Pl.verNext v).pat = v.pat by unfold Pl.verNext; simp [p1])
   clear p1
   have tok : True := trivial
   go_enter Tryz.func152, Tryz.ntmps152
   go_wp2_with (first | (at_builtin; have _t := tok; clear _t; clear tok; go_loud (refine ap (by rfl) (by rfl) Tryz.tStrs (Below.refl (w.heap.size + 3) _) (by rfl) (World.ownsRow_nil _ _ _ _) (m := v.pre.length) (by exact src.out _ (by go_grown)) (by omega) (by simp) ?_); intro v1 w1 own1 b1 s1; obtain ⟨o1, c1, rfl⟩ := own_slice own1; rw [Nat.zero_add] at own1; have OB1 : Blk w1 (w.heap.size + 1 + 1) [.int .i64 v.maj, .int .i64 v.min, .int .i64 (v.pat), .slice none 0 0] := (Blk.new _ _ 24 (by simp)).below b1 (by simp); have RB1 : Blk w1 (w.heap.size + 1) [.int .i64 0, .int .i64 0, .int .i64 0, .slice none 0 0] := ((Blk.new _ _ 24 (by simp)).alloc _).below b1 (by simp); have OB2 : Blk (w1.setCell ⟨w.heap.size + 1 + 1, 3, none⟩ (.slice o1 v.pre.length c1)) (w.heap.size + 1 + 1) [.int .i64 v.maj, .int .i64 v.min, .int .i64 (v.pat), .slice o1 v.pre.length c1] := OB1.st 3 _; have RB2 : Blk (w1.setCell ⟨w.heap.size + 1 + 1, 3, none⟩ (.slice o1 v.pre.length c1)) (w.heap.size + 1) [.int .i64 0, .int .i64 0, .int .i64 0, .slice none 0 0] := RB1.far (by simp) _; have own2 := ownsRow_far own1 (a := ⟨w.heap.size + 1 + 1, 3, none⟩) (by show w.heap.size + 1 + 1 < w.heap.size + 3; omega) (.slice o1 v.pre.length c1); have e0 := OB1.c 3 _ rfl; have e1 := OB1.f 3 (by simp); have e2 := OB1.lt; have e3 := OB2.c 3 _ rfl; have e4 := OB2.f 3 (by simp); simp at s1; have B1 : Below w.heap.size w w1 := bcall (by go_grown) b1 (by omega)) | (at_builtin; go_loud (refine ap1 (by rfl) (by rfl) Tryz.tStrs (Below.refl (w.heap.size + 3) _) (by rfl) own2 (m := 1) (C := [.string Pl.zeroId]) (by rw [World.size_setCell]; rfl) (by rfl) (by rfl) (by omega) (by simp; omega) ?_); intro v2 w2 own3 b2 s2; obtain ⟨o2, c2, rfl⟩ := own_slice own3; have B2 : Below w.heap.size w w2 := bcall (B1.setCell (by show w.heap.size ≤ w.heap.size + 1 + 1; omega) _) b2 (by omega); have OB3 := OB2.below b2 (by omega); have RB3 := RB2.below b2 (by omega); clear OB1 RB1 OB2 RB2 e0 e1 e2 e3 e4; have OB4 : Blk (w2.setCell ⟨w.heap.size + 1 + 1, 3, none⟩ (.slice o2 (v.pre.length + 1) c2)) (w.heap.size + 1 + 1) [.int .i64 v.maj, .int .i64 v.min, .int .i64 (v.pat), .slice o2 (v.pre.length + 1) c2] := OB3.st 3 _; have RB4 : Blk (w2.setCell ⟨w.heap.size + 1 + 1, 3, none⟩ (.slice o2 (v.pre.length + 1) c2)) (w.heap.size + 1) [.int .i64 0, .int .i64 0, .int .i64 0, .slice none 0 0] := RB3.far (by simp) _; have e0 := OB3.c 3 _ rfl; have e1 := OB3.f 3 (by simp); have e2 := OB3.lt; have e3 := OB4.c 0 _ rfl; have e4 := OB4.c 1 _ rfl; have e5 := OB4.c 2 _ rfl; have e6 := OB4.c 3 _ rfl; have g0 := RB4.c 0 _ rfl; have g1 := RB4.c 1 _ rfl; have g2 := RB4.c 2 _ rfl; have g3 := RB4.c 3 _ rfl; have k0 := RB4.f 0 (by simp); have k1 := RB4.f 1 (by simp); have k2 := RB4.f 2 (by simp); have k3 := RB4.f 3 (by simp); have g4 := RB4.lt))
   have RB5 := (((RB4.st 0 (.int .i64 v.maj)).st 1 (.int .i64 v.min)).st 2 (.int .i64 (v.pat))).st 3 (.slice o2 (v.pre.length + 1) c2)
   have h0 := RB5.c 0 _ rfl
   have h1 := RB5.c 1 _ rfl
   have h2 := RB5.c 2 _ rfl
   have h3 := RB5.c 3 _ rfl
   refine bodyPost_ret (v := .agg #[.int .i64 v.maj, .int .i64 v.min, .int .i64 (v.pat), .slice o2 (v.pre.length + 1) c2]) (by simp [results, Tryz.results152, go_sem, h0, h1, h2, h3]) rfl ⟨o2, c2, ?_, VIn.own (base := w.heap.size + 3) (Pl.next_len v) ?_ (Pl.next_ss hss), ?_⟩
   · rw [verV, HP.out, Pl.next_len]; rfl
   · have E : strVals (Pl.verNext v).pre = strVals v.pre ++ [.string Pl.zeroId] := strVals_append _ _
     rw [E]
     exact ownsRow_far (ownsRow_far (ownsRow_far (ownsRow_far (ownsRow_far own3 (by simp) _) (by simp) _) (by simp) _) (by simp) _) (by simp) _
   · go_grown
end
section
open Go.RowKit
structure ExtD (D : Nat → Prop) (w w' : World) : Prop where
 size : w.heap.size ≤ w'.heap.size
 row : ∀ (b : Nat) (C : Array Value) (e : TypeId) (fr : Nat × Nat), ¬ D b → w.heap[b]? = some (Obj.cells C e fr) → ∃ fr', w'.heap[b]? = some (Obj.cells C e fr') ∧ (fr' = fr ∨ fr.1 = fr.2 ∧ fr' = (C.size, C.size + 1))
theorem ExtD.refl (D : Nat → Prop) (w : World) : ExtD D w w := ⟨nle, fun _ _ _ fr _ h => ⟨fr, h, .inl rfl⟩⟩
theorem ExtD.trans {D : Nat → Prop} {a b c : World} (h : ExtD D a b) (g : ExtD D b c) : ExtD D a c := ⟨Nat.le_trans h.size g.size, fun k C e fr hd hk => by
 obtain ⟨f1, h1, h2⟩ := h.row k C e fr hd hk
 obtain ⟨f2, g1, g2⟩ := g.row k C e f1 hd h1
 refine ⟨f2, g1, ?_⟩
 rcases h2 with rfl | ⟨h2, rfl⟩
 · exact g2
 · rcases g2 with rfl | ⟨g2, rfl⟩
   · exact .inr ⟨h2, rfl⟩
   · exact .inr ⟨h2, rfl⟩⟩
theorem Ext.d {w w' : World} (h : Ext w w') (D : Nat → Prop) : ExtD D w w' := ⟨h.size, fun b C e fr _ hb => h.row b C e fr hb⟩
theorem ExtD.setCell {D : Nat → Prop} {a w : World} (h : ExtD D a w) {p : Addr} (hp : D p.block) (v : Value) : ExtD D a (w.setCell p v) := h.trans ⟨by simp, fun b C e fr hd hb => ⟨fr, by
 have hne : b ≠ p.block := fun h2 => hd (h2 ▸ hp)
 have : (w.setCell p v).heap[b]? = w.heap[b]? := Below.heap_setCell _ _ _ _ hne
 rw [this]; exact hb, .inl rfl⟩⟩
theorem ExtD.s1 {D : Nat → Prop} {a w : World} (h : ExtD D a w) {p : Addr} {v : Value} (hp : D p.block := by exact List.mem_singleton.2 rfl) : ExtD D a (w.setCell p v) := h.setCell hp v
theorem ExtD.cell {D : Nat → Prop} {w w' : World} (h : ExtD D w w') (p : Addr) (v : Value) (hd : ¬ D p.block) (hp : w.cell? p = some v) : w'.cell? p = some v := by
 unfold World.cell? at *
 split at hp
 · rename_i C e fr hb
   obtain ⟨fr', h1, _⟩ := h.row _ _ _ _ hd hb
   rw [h1]; exact hp
 · cases hp
theorem ExtD.mono {D E : Nat → Prop} {w w' : World} (h : ExtD D w w') (hDE : ∀ b, D b → E b) : ExtD E w w' := ⟨h.size, fun b C e fr hd hb => h.row b C e fr (fun h2 => hd (hDE b h2)) hb⟩
noncomputable def extWD (D : Nat → Prop) (W e : World) : World := @ite _ (ExtD D W e) (Classical.propDecidable _) e W
theorem extWD_ext (D : Nat → Prop) (W e : World) : ExtD D W (extWD D W e) := by
 unfold extWD
 split
 · assumption
 · exact ExtD.refl _ _
theorem extWD_of {D : Nat → Prop} {W w' : World} (h : ExtD D W w') : w' = extWD D W w' := by
 unfold extWD
 rw [if_pos h]
noncomputable def extCellD (D : Nat → Prop) (W e : World) (a : Addr) : Option Value := (extWD D W e).cell? a
theorem cell?_extWD (D : Nat → Prop) (W e : World) (b o : Nat) (hd : ¬ D b) : (extWD D W e).cell? ⟨b, o, none⟩ = (W.cell? ⟨b, o, none⟩).or (extCellD D W e ⟨b, o, none⟩) := by
 cases h : W.cell? ⟨b, o, none⟩ with
 | none => rfl
 | some v => exact (extWD_ext D W e).cell ⟨b, o, none⟩ v hd h
noncomputable def extWL (L : List Nat) (W e : World) : World := extWD (fun b => b ∈ L) W e
noncomputable def extCellL (L : List Nat) (W e : World) (a : Addr) : Option Value := (extWL L W e).cell? a
@[go_sem] theorem cell?_extW0 (W e : World) (b o : Nat) : (extWL [] W e).cell? ⟨b, o, none⟩ = (W.cell? ⟨b, o, none⟩).or (extCellL [] W e ⟨b, o, none⟩) := cell?_extWD _ W e b o (by simp)
@[go_sem] theorem cell?_extW1 (g : Nat) (W e : World) (b o : Nat) (h : b ≠ g) : (extWL [g] W e).cell? ⟨b, o, none⟩ = (W.cell? ⟨b, o, none⟩).or (extCellL [g] W e ⟨b, o, none⟩) := cell?_extWD _ W e b o (by simp [h])
@[go_sem] theorem cell?_extW2 (g k : Nat) (W e : World) (b o : Nat) (h : b ≠ g) (h2 : b ≠ k) : (extWL [g, k] W e).cell? ⟨b, o, none⟩ = (W.cell? ⟨b, o, none⟩).or (extCellL [g, k] W e ⟨b, o, none⟩) := cell?_extWD _ W e b o (by simp [h, h2])
section theory
variable {P : Program} {ops : Array Oper} {md : Region.Mode} {D : List (Nat × Nat)}
def isRd2 (o : Op) : Bool := isRd o && (match o with | .convert .. => false | _ => true)
def rdAt2 (ops : Array Oper) (i : Nat) : Bool := match ops[i]? with | some o => isRd2 o.op | none => false
def aloneB (md : Region.Mode) (ops : Array Oper) (i : Nat) : Bool := (List.range ops.size).all fun j => j == i || needsB md ops ops.size i j || needsB md ops ops.size j i
def incB (md : Region.Mode) (ops : Array Oper) (i j : Nat) : Bool := j != i && !needsB md ops ops.size i j && !needsB md ops ops.size j i
def hits (D : List (Nat × Nat)) (md : Region.Mode) (ops : Array Oper) (i : Nat) : List Nat := (D.filter fun p => incB md ops i p.1).map (·.2)
def owns (D : List (Nat × Nat)) (j : Nat) : List Nat := (D.filter fun p => p.1 == j).map (·.2)
theorem owns_hits {D : List (Nat × Nat)} {i j b : Nat} (h : incB md ops i j = true) (hb : b ∈ owns D j) : b ∈ hits D md ops i := by
 simp only [owns, hits, List.mem_map, List.mem_filter, beq_iff_eq] at *
 obtain ⟨p, ⟨h1, h2⟩, h3⟩ := hb
 exact ⟨p, ⟨h1, by rw [h2]; exact h⟩, h3⟩
def addUponD (P : Program) (D : Nat → Prop) (o : Oper) (a : Act) (w : World) (K : Act → World → Prop) : Result Next → Prop
 | .ok (.value u) w' => ExtD D w w' ∧ K (a.put o.dst u) w'
 | .ok .skip w' => ExtD D w w' ∧ K (a.put o.dst undef) w'
 | .ok (.enter f args) w' => w' = w ∧ Calls P f args w (fun e w'' => ∃ v, e = .returned v ∧ ExtD D w w'' ∧ K (a.put o.dst v) w'')
 | _ => False
def extOpD (P : Program) (D E : Nat → Prop) (al : Bool) (o : Oper) (a : Act) (w : World) (K : Act → World → Prop) : Prop :=
 (al = true ∧ isSt o.op = true ∧ stUpon o a K ((execOp a.eval o).run P w)) ∨
 (isRd o.op = true ∧ ∃ v, (∀ w', ExtD D w w' → rdUpon w' v ((execOp a.eval o).run P w')) ∧ K (a.put o.dst v) w) ∨
 (isRd2 o.op = false ∧ addUponD P E o a w K ((execOp a.eval o).run P w))
def eOpD (P : Program) (D : List (Nat × Nat)) (md : Region.Mode) (ops : Array Oper) (i : Nat) (K : Act → World → Prop) (a : Act) (w : World) : Prop :=
 match ops[i]? with
 | none => K a w
 | some o => if Region.wanted o (yielded ops a.tmps) then extOpD P (fun b => b ∈ hits D md ops i) (fun b => b ∈ owns D i) (aloneB md ops i) o a w K else K (a.put o.dst undef) w
theorem addUponD_mono {D : Nat → Prop} {o : Oper} {a : Act} {w : World} {K K' : Act → World → Prop} (h : ∀ a w, K a w → K' a w) {r : Result Next} (hh : addUponD P D o a w K r) : addUponD P D o a w K' r := by
 cases r with
 | ok n w' =>
   cases n <;> simp only [addUponD] at hh ⊢
   case value u => exact ⟨hh.1, h _ _ hh.2⟩
   case skip => exact ⟨hh.1, h _ _ hh.2⟩
   case enter f args => exact ⟨hh.1, hh.2.mono fun e w'' ⟨v, h1, h2, h3⟩ => ⟨v, h1, h2, h _ _ h3⟩⟩
 | halt x w' => simp only [addUponD] at hh
theorem eOpD_mono {i : Nat} {a : Act} {w : World} {K K' : Act → World → Prop} (h : ∀ a w, K a w → K' a w) (hh : eOpD P D md ops i K a w) : eOpD P D md ops i K' a w := by
 unfold eOpD at *
 split
 · exact h _ _ (by simpa [*] using hh)
 · rename_i o ho
   simp only [ho] at hh
   split
   · rename_i hw
     simp only [hw, if_true] at hh
     rcases hh with ⟨h0, h1, h2⟩ | ⟨h1, v, h2, h3⟩ | ⟨h1, h2⟩
     · exact .inl ⟨h0, h1, stUpon_mono h h2⟩
     · exact .inr (.inl ⟨h1, v, h2, h _ _ h3⟩)
     · exact .inr (.inr ⟨h1, addUponD_mono h h2⟩)
   · rename_i hw; simp only [hw] at hh; exact h _ _ hh
def wpAnyD (P : Program) (D : List (Nat × Nat)) (md : Region.Mode) (ops : Array Oper) (Q : Act → World → Prop) : Nat → Array Bool → Act → World → Prop
 | 0, listed, a, w => Region.ready md ops listed = [] ∧ Q a w
 | fuel + 1, listed, a, w =>
   (Region.ready md ops listed = [] → Q a w) ∧
   ∀ i ∈ Region.ready md ops listed, eOpD P D md ops i (wpAnyD P D md ops Q fuel (listed.setIfInBounds i true)) a w
theorem wpOp_of_eOpD {i : Nat} {a : Act} {K : Act → World → Prop} {K' : Act → World → Prop} {Q' : Exit → Act → World → Prop} {w : World} (h : ∀ a w', K a w' → K' a w') (hh : eOpD P D md ops i K a w) : wpOp P ops Q' i K' a w := by
 unfold eOpD at hh
 unfold wpOp
 split
 · rename_i ho; simp only [ho] at hh; exact h _ _ hh
 · rename_i o ho
   simp only [ho] at hh
   split
   · rename_i hw
     simp only [hw, if_true] at hh
     refine .inl ?_
     unfold Oper.wp
     rcases hh with ⟨_, h1, h2⟩ | ⟨h1, v, h2, h3⟩ | ⟨h1, h2⟩
     · generalize (execOp a.eval o).run P w = r at *
       cases r with
       | ok n w' =>
         cases n <;> simp only [stUpon] at h2 <;> simp only [Oper.upon]
         case skip => exact h _ _ h2
         case value u => exact h _ _ h2
       | halt x w' => simp only [stUpon] at h2
     · have h4 := h2 w (ExtD.refl _ _)
       generalize (execOp a.eval o).run P w = r at *
       cases r with
       | ok n w' =>
         cases n <;> simp only [rdUpon] at h4 <;> simp only [Oper.upon]
         case value u => obtain ⟨rfl, rfl⟩ := h4; exact h _ _ h3
         case skip => obtain ⟨rfl, rfl⟩ := h4; exact h _ _ h3
       | halt x w' => simp only [rdUpon] at h4
     · generalize (execOp a.eval o).run P w = r at *
       cases r with
       | ok n w' =>
         cases n <;> simp only [addUponD] at h2 <;> simp only [Oper.upon]
         case value u => exact h _ _ h2.2
         case skip => exact h _ _ h2.2
         case enter f args =>
          obtain ⟨rfl, hc⟩ := h2
          exact hc.mono fun e w'' ⟨v, he, _, hk⟩ => by subst he; exact h _ _ hk
       | halt x w' => simp only [addUponD] at h2
   · rename_i hw; simp only [hw] at hh; exact h _ _ hh
theorem wpAny_of_D {Q : Act → World → Prop} {Q' : Exit → Act → World → Prop} (hQ : ∀ a w, Q a w → Q' .normal a w) : ∀ (fuel : Nat) (listed : Array Bool) (a : Act) (w : World),
 wpAnyD P D md ops Q fuel listed a w → wpAny P md ops Q' fuel listed a w
 | 0, _, _, _, h => ⟨h.1, hQ _ _ h.2⟩
 | fuel + 1, _, _, _, h => ⟨fun h0 => hQ _ _ (h.1 h0), fun i hi => wpOp_of_eOpD (fun a' w' => wpAny_of_D hQ fuel _ a' w') (h.2 i hi)⟩
def YieldsD (P : Program) (D : Nat → Prop) (ops : Array Oper) (o : Oper) (v : Value) (a : Act) (w : World) : Prop :=
 (Region.wanted o (yielded ops a.tmps) = true ∧ isRd o.op = true ∧ ∀ w', ExtD D w w' → rdUpon w' v ((execOp a.eval o).run P w')) ∨
 (Region.wanted o (yielded ops a.tmps) = false ∧ v = undef)
theorem YieldsD.eOp {i : Nat} {o : Oper} {v : Value} {a : Act} {w : World} (hi : ops[i]? = some o) (hy : YieldsD P (fun b => b ∈ hits D md ops i) ops o v a w) {K : Act → World → Prop} (h : K (a.put o.dst v) w) : eOpD P D md ops i K a w := by
 unfold eOpD
 simp only [hi]
 rcases hy with ⟨hw, hr, hv⟩ | ⟨hw, rfl⟩
 · simp only [hw, if_true]; exact .inr (.inl ⟨hr, v, hv, h⟩)
 · simp only [hw, Bool.false_eq_true, if_false]; exact h
theorem YieldsD.of_same {D : Nat → Prop} {o : Oper} {v : Value} {a a' : Act} {w w' : World} (hy : YieldsD P D ops o v a w) (hb : ExtD D w w') (he : execOp a'.eval o = execOp a.eval o)
 (hw : Region.wanted o (yielded ops a'.tmps) = Region.wanted o (yielded ops a.tmps)) : YieldsD P D ops o v a' w' := by
 unfold YieldsD at *
 rw [he, hw]
 rcases hy with ⟨h1, h2, h3⟩ | h1
 · exact .inl ⟨h1, h2, fun w'' hb' => h3 w'' (hb.trans hb')⟩
 · exact .inr h1
theorem eOpD_put {i j : Nat} {oi oj : Oper} {v : Value} (hj : ops[j]? = some oj) (hap : oi.apart ops oj = true)
 (hsi : ∀ cs b, oi.op ≠ .select cs b) (hsj : ∀ cs b, oj.op ≠ .select cs b) (hal : aloneB md ops j = false) (hinc : incB md ops i j = true) {K : Act → World → Prop} {a : Act} {w : World}
 (hy : YieldsD P (fun b => b ∈ hits D md ops i) ops oi v a w) (h : eOpD P D md ops j K (a.put oi.dst v) w) :
 eOpD P D md ops j (fun a' w' => YieldsD P (fun b => b ∈ hits D md ops i) ops oi v a' w' ∧ K (a'.put oi.dst v) w') a w := by
 obtain ⟨h1, h2, h3⟩ := Oper.apart_spec hap
 have keep : ∀ u w', ExtD (fun b => b ∈ hits D md ops i) w w' → YieldsD P (fun b => b ∈ hits D md ops i) ops oi v (a.put oj.dst u) w' := fun u w' hb =>
  hy.of_same hb (execOp_put oi hsi a oj.dst u h3) (wanted_put oi a oj.dst u h3)
 unfold eOpD at *
 simp only [hj] at *
 rw [wanted_put oj a oi.dst v h1] at h
 split
 · rename_i hw
   simp only [hw, if_true] at h
   unfold extOpD at *
   rw [execOp_put oj hsj a oi.dst v h1] at h
   rcases h with ⟨g0, _⟩ | ⟨g1, u, g2, g3⟩ | ⟨g1, g2⟩
   · rw [hal] at g0; cases g0
   · exact .inr (.inl ⟨g1, u, g2, keep u w (ExtD.refl _ _), by rw [← Act.put_comm a v u h2]; exact g3⟩)
   · refine .inr (.inr ⟨g1, ?_⟩)
     generalize (execOp a.eval oj).run P w = r at *
     cases r with
     | ok n w' =>
       cases n <;> simp only [addUponD] at g2 ⊢
       case value u => exact ⟨g2.1, keep u w' (g2.1.mono fun b h => owns_hits hinc h), by rw [← Act.put_comm a v u h2]; exact g2.2⟩
       case skip => exact ⟨g2.1, keep undef w' (g2.1.mono fun b h => owns_hits hinc h), by rw [← Act.put_comm a v undef h2]; exact g2.2⟩
       case enter f args => exact ⟨g2.1, g2.2.mono fun e w'' ⟨u, he, hb, hk⟩ => ⟨u, he, hb, keep u w'' (hb.mono fun b h => owns_hits hinc h), by rw [← Act.put_comm a v u h2]; exact hk⟩⟩
     | halt x w' => simp only [addUponD] at g2
 · rename_i hw
   simp only [hw] at h
   exact ⟨keep _ w (ExtD.refl _ _), by rw [← Act.put_comm a v undef h2]; exact h⟩
theorem alone_not {listed : Array Bool} (h : Closed md ops listed) {i j : Nat} (hi : i ∈ Region.ready md ops listed) (hj : j ∈ Region.ready md ops listed) (hne : j ≠ i) : aloneB md ops j = false := by
 cases ha : aloneB md ops j with
 | false => rfl
 | true =>
   exfalso
   simp only [aloneB, List.all_eq_true, List.mem_range] at ha
   obtain ⟨_, oi, hoi, _⟩ := mem_ready.1 hi
   have := ha i (Array.getElem?_eq_some_iff.1 hoi).1
   simp only [Bool.or_eq_true, beq_iff_eq, needsB_ready h hj hi, needsB_ready h hi hj, Bool.false_eq_true, or_false] at this
   exact hne this.symm
theorem inc_ready {listed : Array Bool} (h : Closed md ops listed) {i j : Nat} (hi : i ∈ Region.ready md ops listed) (hj : j ∈ Region.ready md ops listed) (hne : j ≠ i) : incB md ops i j = true := by
 simp only [incB, needsB_ready h hj hi, needsB_ready h hi hj, Bool.not_false, Bool.and_true, bne_iff_ne]
 exact hne
theorem wpAnyD_first {Q : Act → World → Prop} {i : Nat} {oi : Oper} {v : Value} (hi : ops[i]? = some oi) (hsel : ∀ (j : Nat) (o : Oper) cs b, ops[j]? = some o → o.op ≠ .select cs b) :
 ∀ (fuel : Nat) (listed : Array Bool) (a : Act) (w : World),
  Closed md ops listed →
  (∀ j oj, ops[j]? = some oj → j ≠ i → listed.getD j true = false → (∀ e ∈ oj.after, Region.binds md e = true → e.on ≠ i) → oi.apart ops oj = true) →
  i ∈ Region.ready md ops listed → YieldsD P (fun b => b ∈ hits D md ops i) ops oi v a w →
  wpAnyD P D md ops Q fuel (listed.setIfInBounds i true) (a.put oi.dst v) w → wpAnyD P D md ops Q (fuel + 1) listed a w := by
 intro fuel
 induction fuel with
 | zero =>
   intro listed a w _ _ hr hy H
   refine ⟨fun h => (by rw [h] at hr; cases hr), fun j hj => ?_⟩
   by_cases hji : j = i
   · subst hji; exact hy.eOp hi H
   · have := ready_mono hj hji
     rw [H.1] at this
     cases this
 | succ fuel ih =>
   intro listed a w hcl hfree hr hy H
   refine ⟨fun h => (by rw [h] at hr; cases hr), fun j hj => ?_⟩
   by_cases hji : j = i
   · subst hji; exact hy.eOp hi H
   · have h1 := H.2 j (ready_mono hj hji)
     obtain ⟨hjun, oj, hoj, hall⟩ := mem_ready.1 hj
     have hnot : ∀ e ∈ oj.after, Region.binds md e = true → e.on ≠ i := fun e he hb heq => by
      have h1 := hall e he hb
      have h0 := (mem_ready.1 hr).1
      rw [heq] at h1
      rcases Nat.lt_or_ge i listed.size with h' | h'
      · simp [h'] at h0 h1; rw [h0] at h1; cases h1
      · simp [Array.getElem?_eq_none h'] at h1
     have h2 := eOpD_put hoj (hfree j oj hoj hji hjun hnot) (fun cs b => hsel i oi cs b hi) (fun cs b => hsel j oj cs b hoj) (alone_not hcl hr hj hji) (inc_ready hcl hr hj hji) hy h1
     have hfree' : ∀ k ok, ops[k]? = some ok → k ≠ i → (listed.setIfInBounds j true).getD k true = false →
      (∀ e ∈ ok.after, Region.binds md e = true → e.on ≠ i) → oi.apart ops ok = true := fun k ok hk hki hun hno => by
      refine hfree k ok hk hki ?_ hno
      by_cases hjk : j = k
      · subst hjk; exact hjun
      · rw [getD_set_ne true hjk] at hun; exact hun
     refine eOpD_mono (fun a' w' h3 => ih (listed.setIfInBounds j true) a' w' (hcl.set hj) hfree' (ready_mono hr (Ne.symm hji)) h3.1 ?_) h2
     rw [Array.setIfInBounds_comm _ _ hji]
     exact h3.2
def ordFromD (md : Region.Mode) (ops : Array Oper) : List Nat → Array Bool → Bool
 | [], listed => (Region.ready md ops listed).isEmpty
 | i :: l, listed => (Region.ready md ops listed).contains i && ((rdAt2 ops i && Region.free md ops listed i) || Region.ready md ops listed == [i]) && ordFromD md ops l (listed.setIfInBounds i true)
def ordBD (ops : Array Oper) (l : List Nat) : Bool := Region.noSelect ops && l.length == ops.size && ordFromD .any ops l (Array.replicate ops.size false)
def wpD (P : Program) (D : List (Nat × Nat)) (md : Region.Mode) (ops : Array Oper) (Q : Act → World → Prop) : List Nat → Act → World → Prop
 | [], a, w => Q a w
 | i :: l, a, w => eOpD P D md ops i (wpD P D md ops Q l) a w
theorem wpAnyD_ord {Q : Act → World → Prop} (hs : Region.noSelect ops = true) : ∀ (l : List Nat) (listed : Array Bool) (a : Act) (w : World),
 Closed md ops listed → ordFromD md ops l listed = true → wpD P D md ops Q l a w → wpAnyD P D md ops Q l.length listed a w
 | [], _, _, _, _, hB, h => ⟨by simpa [ordFromD] using hB, h⟩
 | i :: l, listed, a, w, hcl, hB, h => by
   simp only [ordFromD, Bool.and_eq_true, Bool.or_eq_true, beq_iff_eq] at hB
   obtain ⟨⟨hr, hf⟩, hB'⟩ := hB
   have h : eOpD P D md ops i (wpD P D md ops Q l) a w := h
   have ih := fun a' w' => wpAnyD_ord (Q := Q) hs l (listed.setIfInBounds i true) a' w' (hcl.set (by simpa using hr)) hB'
   rcases hf with ⟨hd, hf⟩ | hf
   · unfold rdAt2 at hd
     cases ho : ops[i]? with
     | none => simp [ho] at hd
     | some o =>
       simp only [ho] at hd
       have h' := h
       unfold eOpD at h'
       simp only [ho] at h'
       by_cases hw : Region.wanted o (yielded ops a.tmps) = true
       · simp only [hw, if_true] at h'
         have hd1 : isRd o.op = true := by simp only [isRd2, Bool.and_eq_true] at hd; exact hd.1
         rcases h' with ⟨_, h1, _⟩ | ⟨h1, v, h2, h3⟩ | ⟨h1, _⟩
         · rw [isSt_rd hd1] at h1; cases h1
         · exact wpAnyD_first ho (Region.noSelect_spec hs) l.length listed a w hcl (Region.free_spec ho hf) (by simpa using hr) (.inl ⟨hw, hd1, h2⟩) (ih _ _ h3)
         · rw [h1] at hd; cases hd
       · simp only [hw] at h'
         exact wpAnyD_first ho (Region.noSelect_spec hs) l.length listed a w hcl (Region.free_spec ho hf) (by simpa using hr) (.inr ⟨by simpa using hw, rfl⟩) (ih _ _ h')
   · refine ⟨fun h0 => ?_, fun j hj => ?_⟩
     · rw [hf] at h0; cases h0
     · rw [hf] at hj
       obtain rfl : j = i := by simpa using hj
       exact eOpD_mono ih h
theorem wp_region_ordD {id : Nat} {Q : Exit → Act → World → Prop} {a : Act} {w : World} {l : List Oper} (D : List (Nat × Nat)) (ord : List Nat) (hm : P.follows .mixedOrders = true) (hB : ordBD l.toArray ord = true)
 (h : wpD P D .any l.toArray (fun a' w' => Q .normal a' w') ord a w.drew) : (Code.region id l.toArray true).wp P Q a w := by
 simp only [ordBD, Bool.and_eq_true, beq_iff_eq] at hB
 obtain ⟨⟨h1, h2⟩, h3⟩ := hB
 have h4 := wpAnyD_ord h1 ord _ a _ Closed.start h3 h
 rw [h2] at h4
 exact wp_region_any hm (wpAny_of_D (Q := fun a' w' => Q .normal a' w') (fun _ _ h => h) _ _ _ _ h4)
theorem wpD_nil {Q : Act → World → Prop} {a : Act} {w : World} (h : Q a w) : wpD P D md ops Q [] a w := h
theorem wpD_rd (L : List Nat) {Q : Act → World → Prop} {a : Act} {w : World} {l : List Oper} {i : Nat} {rest : List Nat} {o : Oper} (hL : hits D md l.toArray i = L) (hi : l[i]? = some o) (hr : isRd o.op = true)
 (h : wpQuiet P l.toArray (fun w' => ∃ e, w' = extWL L w e) (fun a' => wpD P D md l.toArray Q rest a' w) [o] a) : wpD P D md l.toArray Q (i :: rest) a w := by
 show eOpD P D md l.toArray i _ a w
 have hi' : l.toArray[i]? = some o := by simpa using hi
 unfold eOpD
 simp only [hi']
 unfold wpQuiet at h
 split
 · rename_i hw
   simp only [hw, if_true] at h
   obtain ⟨v, h1, h2⟩ := h
   refine .inr (.inl ⟨hr, v, fun w' hb => ?_, h2⟩)
   rw [hL] at hb
   have h3 := h1 w' ⟨w', extWD_of hb⟩
   unfold Oper.quietAt at h3
   cases hx : (execOp a.eval o).run P w' with
   | ok n w2 =>
     rw [hx] at h3
     cases n <;> simp only [Oper.quietUpon] at h3 <;> simp only [rdUpon]
     case value u => exact h3
     case skip => exact h3
     case enter f args => exact absurd hx (noEnter hr)
   | halt x w2 => rw [hx] at h3; simp only [Oper.quietUpon] at h3
 · rename_i hw
   simp only [hw] at h
   exact h
theorem wpD_pure {Q : Act → World → Prop} {a : Act} {w : World} {l : List Oper} {i : Nat} {rest : List Nat} {o : Oper} (hi : l[i]? = some o) (hr : isRd o.op = true)
 (h : wpQuiet P l.toArray (fun _ => True) (fun a' => wpD P D md l.toArray Q rest a' w) [o] a) : wpD P D md l.toArray Q (i :: rest) a w := by
 show eOpD P D md l.toArray i _ a w
 have hi' : l.toArray[i]? = some o := by simpa using hi
 unfold eOpD
 simp only [hi']
 unfold wpQuiet at h
 split
 · rename_i hw
   simp only [hw, if_true] at h
   obtain ⟨v, h1, h2⟩ := h
   refine .inr (.inl ⟨hr, v, fun w' _ => ?_, h2⟩)
   have h3 := h1 w' trivial
   unfold Oper.quietAt at h3
   cases hx : (execOp a.eval o).run P w' with
   | ok n w2 =>
     rw [hx] at h3
     cases n <;> simp only [Oper.quietUpon] at h3 <;> simp only [rdUpon]
     case value u => exact h3
     case skip => exact h3
     case enter f args => exact absurd hx (noEnter hr)
   | halt x w2 => rw [hx] at h3; simp only [Oper.quietUpon] at h3
 · rename_i hw
   simp only [hw] at h
   exact h
theorem wpD_call {Q : Act → World → Prop} {a : Act} {w : World} {l : List Oper} {i : Nat} {rest : List Nat} {o : Oper} (hi : l[i]? = some o) (hr : isRd2 o.op = false) (hw : Region.wanted o (yielded l.toArray a.tmps) = true)
 {f : FuncId} {args : Array Value} (hx : (execOp a.eval o).run P w = .ok (.enter f args) w)
 (h : Calls P f args w (fun e w' => ∃ v, e = .returned v ∧ Below w.heap.size w w' ∧ wpD P D md l.toArray Q rest (a.put o.dst v) w')) : wpD P D md l.toArray Q (i :: rest) a w := by
 show eOpD P D md l.toArray i _ a w
 have hi' : l.toArray[i]? = some o := by simpa using hi
 unfold eOpD
 simp only [hi', hw, if_true]
 refine .inr (.inr ⟨hr, ?_⟩)
 rw [hx]
 exact ⟨rfl, h.mono fun e w' ⟨v, h1, h2, h3⟩ => ⟨v, h1, (Below.ext h2).d _, h3⟩⟩
theorem wpD_st {Q : Act → World → Prop} {a : Act} {w : World} {l : List Oper} {i : Nat} {rest : List Nat} {o : Oper} (hi : l[i]? = some o) (hr : isRd2 o.op = false) (hw : Region.wanted o (yielded l.toArray a.tmps) = true)
 {w' : World} (hx : (execOp a.eval o).run P w = .ok .skip w') (hb : ExtD (fun b => b ∈ owns D i) w w')
 (h : wpD P D md l.toArray Q rest (a.put o.dst undef) w') : wpD P D md l.toArray Q (i :: rest) a w := by
 show eOpD P D md l.toArray i _ a w
 have hi' : l.toArray[i]? = some o := by simpa using hi
 unfold eOpD
 simp only [hi', hw, if_true]
 refine .inr (.inr ⟨hr, ?_⟩)
 rw [hx]
 exact ⟨hb, h⟩
theorem ExtD.grown {D : Nat → Prop} {w w' : World} {v : Value} (h : w.grownBy w' v.ownBlock) (hv : ∀ g, v.ownBlock = some g → D g) : ExtD D w w' := ⟨h.size, fun b C e fr hd hb => ⟨fr, by
 have hlt : b < w.heap.size := by
  rcases Nat.lt_or_ge b w.heap.size with h' | h'
  · exact h'
  · simp [Array.getElem?_eq_none h'] at hb
 rw [h.block b hlt (fun h2 => hd (hv b h2.symm)), hb], .inl rfl⟩⟩
theorem wpD_cons {P : Program} {E : List (Nat × Nat)} {md : Region.Mode} {ops : Array Oper} {Q : Act → World → Prop} {i : Nat} {l : List Nat} {a : Act} {w : World} (h : eOpD P E md ops i (wpD P E md ops Q l) a w) : wpD P E md ops Q (i :: l) a w := h
attribute [irreducible] wpD
end theory
end
end Go.Proofs.YtolfgcoalihmgaaGreatDoor
