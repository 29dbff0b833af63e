/- Contracts: the next version, by the reference; small helpers of the laws. -/
import Derived.Test.YthnhajihkdgifaaDoorBi
namespace Go.Proofs.YthnhajihkdgifaaDoor
open Go.RowKit

set_option maxRecDepth 100000 in
theorem Tryd.tStrs : ElemT Tryd.prog 22 9 1 16 := ⟨Tryd.underlying22, ⟨_, _, rfl, rfl, rfl, rfl, rfl⟩, by decide, by decide⟩
theorem ownsRow_far {w : World} {base : Nat} {e : TypeId} {size : Nat} {v : Value} {n : Nat} {xs : List Value} (h : w.ownsRow base e size v n xs) {a : Addr} (ha : a.block < base) (u : Value) : (w.setCell a u).ownsRow base e size v n xs := by
  refine ⟨h.1, ?_⟩
  rcases h.2 with hn | ⟨g, cap, cur, rfl, hbg, hgg, rest⟩
  · exact .inl hn
  · exact .inr ⟨g, cap, cur, rfl, hbg, (Below.heap_setCell _ _ _ _ (by omega)).trans hgg, rest⟩
theorem Below.set_far {B : Nat} {a w : World} {p : Addr} (h : Below B a w) (hp : B ≤ p.block) (v : Value) : Below B a (w.setCell p v) := h.setCell hp v
theorem VIn.zero (w : World) : VIn w Pl.Ver.zero none 0 := ⟨⟨by simp [Pl.Ver.zero, strVals], Nat.le_refl _, Nat.zero_le _, .inl rfl⟩, fun s hs => by cases hs⟩
/-- A version is handed back, its identifiers lie in memory. -/
def RVer (v : Pl.Ver) (w : World) (e : Ending) (w' : World) : Prop := ∃ a c, e = .returned (verV v a c) ∧ VIn w' v a c ∧ Below w.heap.size w w'
def RVerF (v : Pl.Ver) (F : Int × Int) (w : World) (e : Ending) (w' : World) : Prop := ∃ a c, e = .returned (.tuple #[verV v a c, fltV F]) ∧ VIn w' v a c ∧ Below w.heap.size w w'
theorem VIn.own {w : World} {v : Pl.Ver} {base n cap : Nat} {oa : Option Addr} (hn : v.pre.length = n) (h : w.ownsRow base 9 1 (.slice oa n cap) n (strVals v.pre)) (hs : ∀ s ∈ v.pre, s.size ≤ 9223372036854775807) : VIn w v oa cap := by
  subst hn
  exact ⟨Sl.own h, hs⟩

theorem ver_at (a b d : Int) (w : World) : Calls Tryd.prog 24 #[.int .i64 a, .int .i64 b, .int .i64 d] w fun e w' => e = .returned (verV ⟨a, b, d, []⟩ none 0) ∧ w' = w.alloc (.cells #[.int .i64 a, .int .i64 b, .int .i64 d, .slice none 0 0] 24) := by
  go_enter Tryd.func24, Tryd.ntmps24
  go_wp2
  go_returns
  exact ⟨rfl, rfl⟩
theorem pre_at (a b d : Int) (s : ByteArray) (w : World) : Calls Tryd.prog 25 #[.int .i64 a, .int .i64 b, .int .i64 d, .string s] w fun e w' => e = .returned (verV ⟨a, b, d, [s]⟩ (some ⟨w.heap.size + 1, 0, none⟩) 1) ∧ w' = (w.alloc (.cells #[.int .i64 a, .int .i64 b, .int .i64 d, .slice (some ⟨w.heap.size + 1, 0, none⟩) 1 1] 24)).alloc (.cells #[.string s] 9) := by
  go_enter Tryd.func25, Tryd.ntmps25
  go_wp2
  go_returns
  exact ⟨rfl, rfl⟩
theorem VIn.pre {w : World} {a b d : Int} {s : ByteArray} (hs : s.size ≤ 9223372036854775807) {B : Nat} {w' : World} (o : Obj) (hb : Below B ((w.alloc o).alloc (.cells #[.string s] 9)) w') (hB : w.heap.size + 2 ≤ B) : VIn w' ⟨a, b, d, [s]⟩ (some ⟨w.heap.size + 1, 0, none⟩) 1 :=
  VIn.below (w := (w.alloc o).alloc (.cells #[.string s] 9)) ⟨Sl.fresh (C := strVals [s]) (by simp) rfl (Nat.le_refl _) (by unfold maxLen; simp), fun x hx => by rw [List.mem_singleton.1 hx]; exact hs⟩ hb (by simp; omega)

theorem lcompare_any (x y : Pl.Ver) (a b : Option Addr) (c d : Nat) (w : World) (hx : VIn w x a c) (hy : VIn w y b d) (okx : x.Ok) (oky : y.Ok) :
    Calls Tryd.prog 22 #[verV x a c, verV y b d] w fun e w' => e = .returned (.int .i64 (Pl.verCmp x y)) ∧ Below w.heap.size w w' := by
  have HX := Lib.hid hx
  have HY := Lib.hid hy
  have F : Pl.cmpF x y = (0, 0) := by unfold Pl.cmpF; rw [if_neg (by rw [Pl.vrF_ok okx]; decide), if_neg (by rw [Pl.vrF_ok oky]; decide)]
  have V : Pl.cmpV x y = Pl.verCmp x y := by unfold Pl.cmpV; rw [F, if_neg (by decide)]
  replace F := Lib.hid F
  replace V := Lib.hid V
  clear hx hy
  go_enter Tryd.func22, Tryd.ntmps22
  go_wp2_with fail
  refine (verCompare_any x y a b c d _ (HX.out.below (by go_grown) (Nat.le_refl _)) (HY.out.below (by go_grown) (Nat.le_refl _))).mono ?_
  rw [F.out, V.out]
  rintro e w1 ⟨rfl, hb1⟩
  have B1 : Below w.heap.size w w1 := bcall (by go_grown) hb1 (by go_size)
  clear hb1
  go_wp2_with fail
  go_ret
  exact ⟨rfl, by have h := B1.size; go_grown⟩

namespace Pl
theorem next_len (v : Ver) : (verNext v).pre.length = v.pre.length + 1 := by unfold verNext; simp
theorem next_ss {v : Ver} (h : ∀ s ∈ v.pre, s.size ≤ 9223372036854775807) : ∀ s ∈ (verNext v).pre, s.size ≤ 9223372036854775807 := fun s hs => by
  rcases List.mem_append.1 hs with h1 | h1
  · exact h s h1
  · rw [List.mem_singleton.1 h1]; decide
end Pl

set_option maxHeartbeats 2000000 in
theorem VersionNext_any (v : Pl.Ver) (a : Option Addr) (c : Nat) (w : World) (h : VIn w v a c) (ok : v.Ok) :
    Calls Tryd.prog 15 #[verV v a c] w (RVer (Pl.verNext v) w) := by
  have H := Lib.hid h
  have hn := ok.n
  have hp := Pl.inT ok.m3
  have hss := h.ss
  clear h ok
  have src : ∀ W : World, Below w.heap.size w W → Src Tryd.prog 1 22 (.slice a v.pre.length c) v.pre.length (strVals v.pre) W := fun W hb => Src.ofSl (P := Tryd.prog) Tryd.underlying22 (H.out.sl.below hb (Nat.le_refl _)) (by decide) (strVals_one _)
  replace src := Lib.hid src
  have hlen := Lib.hid (show (strVals v.pre).length = v.pre.length from strVals_length _)
  by_cases p1 : v.pre.length = 0
  · have q1 : ((v.pre.length : Int) == 0) = true := beqT (by omega)
    have HP := Lib.hid (show (Pl.verNext v).pat = v.pat + 1 by unfold Pl.verNext; simp [p1])
    clear p1
    have tok : True := trivial
    go_enter Tryd.func15, Tryd.ntmps15
    go_wp2_with (first | (at_builtin; have _t := tok; clear _t; clear tok; go_loud (refine ap (by rfl) (by rfl) Tryd.tStrs (Below.refl (w.heap.size + 3) _) (by rfl) (World.ownsRow_nil _ _ _ _) (m := v.pre.length) (by exact src.out _ (by go_grown)) (by omega) (by simp) ?_); intro v1 w1 own1 b1 s1; obtain ⟨o1, c1, rfl⟩ := own_slice own1; rw [Nat.zero_add] at own1; have OB1 : Blk w1 (w.heap.size + 1 + 1) [.int .i64 v.maj, .int .i64 v.min, .int .i64 (v.pat + 1), .slice none 0 0] := (Blk.new _ _ 24 (by simp)).below b1 (by simp); have RB1 : Blk w1 (w.heap.size + 1) [.int .i64 0, .int .i64 0, .int .i64 0, .slice none 0 0] := ((Blk.new _ _ 24 (by simp)).alloc _).below b1 (by simp); have OB2 : Blk (w1.setCell ⟨w.heap.size + 1 + 1, 3, none⟩ (.slice o1 v.pre.length c1)) (w.heap.size + 1 + 1) [.int .i64 v.maj, .int .i64 v.min, .int .i64 (v.pat + 1), .slice o1 v.pre.length c1] := OB1.set (k := 3) (by simp) _; have RB2 : Blk (w1.setCell ⟨w.heap.size + 1 + 1, 3, none⟩ (.slice o1 v.pre.length c1)) (w.heap.size + 1) [.int .i64 0, .int .i64 0, .int .i64 0, .slice none 0 0] := RB1.far (by simp) _; have own2 := ownsRow_far own1 (a := ⟨w.heap.size + 1 + 1, 3, none⟩) (by show w.heap.size + 1 + 1 < w.heap.size + 3; omega) (.slice o1 v.pre.length c1); have e0 := OB1.c 3 _ rfl; have e1 := OB1.f 3 (by simp); have e2 := OB1.lt; have e3 := OB2.c 3 _ rfl; have e4 := OB2.f 3 (by simp); simp at s1; have B1 : Below w.heap.size w w1 := bcall (by go_grown) b1 (by omega)) | (at_builtin; go_loud (refine ap1 (by rfl) (by rfl) Tryd.tStrs (Below.refl (w.heap.size + 3) _) (by rfl) own2 (m := 1) (C := [.string Pl.zeroId]) (by rw [World.size_setCell]; rfl) (by rfl) (by rfl) (by omega) (by simp; omega) ?_); intro v2 w2 own3 b2 s2; obtain ⟨o2, c2, rfl⟩ := own_slice own3; have B2 : Below w.heap.size w w2 := bcall (B1.setCell (by show w.heap.size ≤ w.heap.size + 1 + 1; omega) _) b2 (by omega); have OB3 := OB2.below b2 (by omega); have RB3 := RB2.below b2 (by omega); clear OB1 RB1 OB2 RB2 e0 e1 e2 e3 e4; have OB4 : Blk (w2.setCell ⟨w.heap.size + 1 + 1, 3, none⟩ (.slice o2 (v.pre.length + 1) c2)) (w.heap.size + 1 + 1) [.int .i64 v.maj, .int .i64 v.min, .int .i64 (v.pat + 1), .slice o2 (v.pre.length + 1) c2] := OB3.set (k := 3) (by simp) _; have RB4 : Blk (w2.setCell ⟨w.heap.size + 1 + 1, 3, none⟩ (.slice o2 (v.pre.length + 1) c2)) (w.heap.size + 1) [.int .i64 0, .int .i64 0, .int .i64 0, .slice none 0 0] := RB3.far (by simp) _; have e0 := OB3.c 3 _ rfl; have e1 := OB3.f 3 (by simp); have e2 := OB3.lt; have e3 := OB4.c 0 _ rfl; have e4 := OB4.c 1 _ rfl; have e5 := OB4.c 2 _ rfl; have e6 := OB4.c 3 _ rfl; have g0 := RB4.c 0 _ rfl; have g1 := RB4.c 1 _ rfl; have g2 := RB4.c 2 _ rfl; have g3 := RB4.c 3 _ rfl; have k0 := RB4.f 0 (by simp); have k1 := RB4.f 1 (by simp); have k2 := RB4.f 2 (by simp); have k3 := RB4.f 3 (by simp); have g4 := RB4.lt))
    have RB5 := (((RB4.set (k := 0) (by simp) (.int .i64 v.maj)).set (k := 1) (by simp) (.int .i64 v.min)).set (k := 2) (by simp) (.int .i64 (v.pat + 1))).set (k := 3) (by simp) (.slice o2 (v.pre.length + 1) c2)
    have h0 := RB5.c 0 _ rfl
    have h1 := RB5.c 1 _ rfl
    have h2 := RB5.c 2 _ rfl
    have h3 := RB5.c 3 _ rfl
    refine bodyPost_ret (v := .agg #[.int .i64 v.maj, .int .i64 v.min, .int .i64 (v.pat + 1), .slice o2 (v.pre.length + 1) c2]) (by simp [results, Tryd.results15, go_sem, h0, h1, h2, h3]) rfl ⟨o2, c2, ?_, VIn.own (base := w.heap.size + 3) (Pl.next_len v) ?_ (Pl.next_ss hss), ?_⟩
    · rw [verV, HP.out, Pl.next_len]; rfl
    · have E : strVals (Pl.verNext v).pre = strVals v.pre ++ [.string Pl.zeroId] := strVals_append _ _
      rw [E]
      exact ownsRow_far (ownsRow_far (ownsRow_far (ownsRow_far (ownsRow_far own3 (by simp) _) (by simp) _) (by simp) _) (by simp) _) (by simp) _
    · go_grown
  · have q1 : ((v.pre.length : Int) == 0) = false := beqF (by omega)
    have HP := Lib.hid (show (Pl.verNext v).pat = v.pat by unfold Pl.verNext; simp [p1])
    clear p1
    have tok : True := trivial
    go_enter Tryd.func15, Tryd.ntmps15
    go_wp2_with (first | (at_builtin; have _t := tok; clear _t; clear tok; go_loud (refine ap (by rfl) (by rfl) Tryd.tStrs (Below.refl (w.heap.size + 3) _) (by rfl) (World.ownsRow_nil _ _ _ _) (m := v.pre.length) (by exact src.out _ (by go_grown)) (by omega) (by simp) ?_); intro v1 w1 own1 b1 s1; obtain ⟨o1, c1, rfl⟩ := own_slice own1; rw [Nat.zero_add] at own1; have OB1 : Blk w1 (w.heap.size + 1 + 1) [.int .i64 v.maj, .int .i64 v.min, .int .i64 (v.pat), .slice none 0 0] := (Blk.new _ _ 24 (by simp)).below b1 (by simp); have RB1 : Blk w1 (w.heap.size + 1) [.int .i64 0, .int .i64 0, .int .i64 0, .slice none 0 0] := ((Blk.new _ _ 24 (by simp)).alloc _).below b1 (by simp); have OB2 : Blk (w1.setCell ⟨w.heap.size + 1 + 1, 3, none⟩ (.slice o1 v.pre.length c1)) (w.heap.size + 1 + 1) [.int .i64 v.maj, .int .i64 v.min, .int .i64 (v.pat), .slice o1 v.pre.length c1] := OB1.set (k := 3) (by simp) _; have RB2 : Blk (w1.setCell ⟨w.heap.size + 1 + 1, 3, none⟩ (.slice o1 v.pre.length c1)) (w.heap.size + 1) [.int .i64 0, .int .i64 0, .int .i64 0, .slice none 0 0] := RB1.far (by simp) _; have own2 := ownsRow_far own1 (a := ⟨w.heap.size + 1 + 1, 3, none⟩) (by show w.heap.size + 1 + 1 < w.heap.size + 3; omega) (.slice o1 v.pre.length c1); have e0 := OB1.c 3 _ rfl; have e1 := OB1.f 3 (by simp); have e2 := OB1.lt; have e3 := OB2.c 3 _ rfl; have e4 := OB2.f 3 (by simp); simp at s1; have B1 : Below w.heap.size w w1 := bcall (by go_grown) b1 (by omega)) | (at_builtin; go_loud (refine ap1 (by rfl) (by rfl) Tryd.tStrs (Below.refl (w.heap.size + 3) _) (by rfl) own2 (m := 1) (C := [.string Pl.zeroId]) (by rw [World.size_setCell]; rfl) (by rfl) (by rfl) (by omega) (by simp; omega) ?_); intro v2 w2 own3 b2 s2; obtain ⟨o2, c2, rfl⟩ := own_slice own3; have B2 : Below w.heap.size w w2 := bcall (B1.setCell (by show w.heap.size ≤ w.heap.size + 1 + 1; omega) _) b2 (by omega); have OB3 := OB2.below b2 (by omega); have RB3 := RB2.below b2 (by omega); clear OB1 RB1 OB2 RB2 e0 e1 e2 e3 e4; have OB4 : Blk (w2.setCell ⟨w.heap.size + 1 + 1, 3, none⟩ (.slice o2 (v.pre.length + 1) c2)) (w.heap.size + 1 + 1) [.int .i64 v.maj, .int .i64 v.min, .int .i64 (v.pat), .slice o2 (v.pre.length + 1) c2] := OB3.set (k := 3) (by simp) _; have RB4 : Blk (w2.setCell ⟨w.heap.size + 1 + 1, 3, none⟩ (.slice o2 (v.pre.length + 1) c2)) (w.heap.size + 1) [.int .i64 0, .int .i64 0, .int .i64 0, .slice none 0 0] := RB3.far (by simp) _; have e0 := OB3.c 3 _ rfl; have e1 := OB3.f 3 (by simp); have e2 := OB3.lt; have e3 := OB4.c 0 _ rfl; have e4 := OB4.c 1 _ rfl; have e5 := OB4.c 2 _ rfl; have e6 := OB4.c 3 _ rfl; have g0 := RB4.c 0 _ rfl; have g1 := RB4.c 1 _ rfl; have g2 := RB4.c 2 _ rfl; have g3 := RB4.c 3 _ rfl; have k0 := RB4.f 0 (by simp); have k1 := RB4.f 1 (by simp); have k2 := RB4.f 2 (by simp); have k3 := RB4.f 3 (by simp); have g4 := RB4.lt))
    have RB5 := (((RB4.set (k := 0) (by simp) (.int .i64 v.maj)).set (k := 1) (by simp) (.int .i64 v.min)).set (k := 2) (by simp) (.int .i64 (v.pat))).set (k := 3) (by simp) (.slice o2 (v.pre.length + 1) c2)
    have h0 := RB5.c 0 _ rfl
    have h1 := RB5.c 1 _ rfl
    have h2 := RB5.c 2 _ rfl
    have h3 := RB5.c 3 _ rfl
    refine bodyPost_ret (v := .agg #[.int .i64 v.maj, .int .i64 v.min, .int .i64 (v.pat), .slice o2 (v.pre.length + 1) c2]) (by simp [results, Tryd.results15, go_sem, h0, h1, h2, h3]) rfl ⟨o2, c2, ?_, VIn.own (base := w.heap.size + 3) (Pl.next_len v) ?_ (Pl.next_ss hss), ?_⟩
    · rw [verV, HP.out, Pl.next_len]; rfl
    · have E : strVals (Pl.verNext v).pre = strVals v.pre ++ [.string Pl.zeroId] := strVals_append _ _
      rw [E]
      exact ownsRow_far (ownsRow_far (ownsRow_far (ownsRow_far (ownsRow_far own3 (by simp) _) (by simp) _) (by simp) _) (by simp) _) (by simp) _
    · go_grown
end Go.Proofs.YthnhajihkdgifaaDoor
