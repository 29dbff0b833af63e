/- Contracts of the laws' small functions: wide, great, span. -/
import Derived.Test.YtolfgcoalihmgaaGreatDoorMKv
import Derived.Test.YtolfgcoalihmgaaGreatDoorDh
namespace Go.Proofs.YtolfgcoalihmgaaGreatDoor
open Go.RowKit
theorem VIn.rel (a b d : Int) (W : World) : VIn W ⟨a, b, d, []⟩ none 0 := ⟨⟨by simp [strVals], nle, Nat.zero_le _, .inl rfl⟩, fun s hs => by cases hs⟩
theorem RIn.setBk {w : World} {r : List Pl.Ivl} {a : Option Addr} {c g : Nat} {cs : List Value} (h : RIn w r a c) (hk : Bk w g cs) (hl : cs.length < 9) {j : Nat} {u : Value} (hu : cs[j]? = some u) (hs : ∀ s, u ≠ .string s) (v : Value) : RIn (w.setCell ⟨g, j, none⟩ v) r a c := by
 obtain ⟨es, h1, h2⟩ := h.mem
 refine ⟨es, ⟨h1.hl, h1.hcap, h1.hmax, ?_⟩, h2.mono fun x cc ⟨a, b, c, d, e, g1, g2⟩ => ⟨a, b, c, d, e, g1.setNS (hk.c j hu) hs v, g2.setNS (hk.c j hu) hs v⟩⟩
 rcases h1.mem with h0 | ⟨b, off, rfl, hlt, hc⟩
 · exact .inl h0
 · refine .inr ⟨b, off, rfl, by simpa using hlt, fun i y hy => ?_⟩
   rw [World.cell?_setCell_other]
   · exact hc i y hy
   · intro e
     have e1 : b = g := by injection e with e1 _; first | exact e1 | exact e1.symm
     subst e1
     have hi := (List.getElem?_eq_some_iff.1 hy).1
     have hn : es.length = r.length * 9 := h1.hl
     have hlast : es[i / 9 * 9 + 8]? = some (es[i / 9 * 9 + 8]'(by omega)) := List.getElem?_eq_getElem (by omega)
     have := hc _ _ hlast
     rw [hk.a] at this
     have := (List.getElem?_eq_some_iff.1 this).1
     omega
def SomeB (w : World) (e : Ending) (w' : World) : Prop := (∃ g : Bool, e = .returned (.bool g)) ∧ Below w.heap.size w w'
set_option maxHeartbeats 2000000 in
theorem wide_any (v : Pl.Ver) (a : Option Addr) (c : Nat) (w : World) : Calls Tryz.prog 72 #[verV v a c] w (SomeB w) := by
 go_enter Tryz.func72, Tryz.ntmps72
 go_wp2_with fail
 go_ret
 exact ⟨⟨_, by rfl⟩, by go_grown⟩
set_option maxHeartbeats 4000000 in
theorem great_any (r : List Pl.Ivl) (a : Option Addr) (c : Nat) (w : World) (h : RIn w r a c) : Calls Tryz.prog 20 #[.agg #[.slice a r.length c]] w (SomeB w) := by
 have H := Hd h
 have hm := h.len
 clear h
 go_enter Tryz.func20, Tryz.ntmps20
 have B0 := brl w
 go_wp2_with fail
 have B1 : Below w.heap.size w (w.alloc (.cells #[.slice a r.length c] 33)) := by go_grown
 have q1 : w.heap.size + 1 ≤ (w.alloc (.cells #[.slice a r.length c] 33)).heap.size := by simp only [World.size_alloc]; omega
 have X := (Bk.new (r := w.heap.size) (cs := [.slice a r.length c]) w 33 (by simp))
 generalize (w.alloc (.cells #[.slice a r.length c] 33)) = w1 at *
 have s1 := B1.size
 have ⟨Xc, Xf, Xl⟩ := X
 clear Xc Xf Xl
 go_loopw [3] (fun i wr => ∃ k : Nat, k ≤ r.length ∧ i = .int .i64 k ∧ Bk wr w.heap.size [.slice a r.length c] ∧ Below w.heap.size w wr) (fun i _ => r.length - (intOf i).toNat)
 case atStart => exact ⟨0, Nat.zero_le _, rfl, X, B1⟩
 case round =>
  obtain ⟨k, hk, rfl, X, B9⟩ := hrel
  clear B1 q1 s1
  have s9 := B9.size
  by_cases hlt2 : k < r.length
  · have t5 : decide ((k : Int) < (r.length : Int)) = true := decT (by omega)
    obtain ⟨bb, off, rfl, hltb, hat⟩ := H.out.at (by omega)
    obtain ⟨a1, b1, c1, d1, I0⟩ := hat k hlt2
    have HI := Hd I0
    clear hat I0
    generalize r[k] = x at *
    obtain ⟨e0, e1, e2, e3, e4, e5, e6, e7, e8, VA, VB⟩ := HI.out.below B9 hltb nle
    clear VA VB
    have ⟨Xc, Xf, Xl⟩ := X
    by_cases h40 : (k : Int) < 40
    · have t6 : decide ((k : Int) < 40) = true := decT h40
      have t7 : decide (k < 40) = true := decT (by omega)
      go_wp2_with fail
      refine (wide_any x.lo a1 c1 _).mono ?_
      rintro e w2 ⟨⟨g1, rfl⟩, hb⟩
      have B2 := bcm w hb
      have X2 := X.bw hb
      clear hb Xc Xf Xl e0 e1 e2 e3 e4 e5 e6 e7 e8
      have s2 := B2.size
      have ⟨Xc, Xf, Xl⟩ := X2
      obtain ⟨e0, e1, e2, e3, e4, e5, e6, e7, e8, VA, VB⟩ := HI.out.below B2 hltb nle
      clear VA VB
      cases g1 with
      | true =>
        go_wp2_with fail
        go_ret
        exact ⟨⟨_, by rfl⟩, by go_grown⟩
      | false =>
        go_wp2_with fail
        refine (wide_any x.hi b1 d1 _).mono ?_
        rintro e w3 ⟨⟨g2, rfl⟩, hb⟩
        have B3 := bcm w hb
        have X3 := X2.bw hb
        clear hb Xc Xf Xl e0 e1 e2 e3 e4 e5 e6 e7 e8
        have s3 := B3.size
        have ⟨Xc, Xf, Xl⟩ := X3
        cases g2 with
        | true =>
          go_wp2_with fail
          go_ret
          exact ⟨⟨_, by rfl⟩, by go_grown⟩
        | false =>
          go_wp2_with fail
          go_roundw
          case rel => exact ⟨k + 1, hlt2, by go_num, X3, B3⟩
          case measure => simp [intOf]; omega
    · have t6 : decide ((k : Int) < 40) = false := decF h40
      have t7 : decide (k < 40) = false := decF (by omega)
      go_wp2_with fail
      go_ret
      exact ⟨⟨_, by rfl⟩, by go_grown⟩
  · have t5 : decide ((k : Int) < (r.length : Int)) = false := decF (by omega)
    have ⟨Xc, Xf, Xl⟩ := X
    go_wp2_with fail
    go_ret
    exact ⟨⟨_, by rfl⟩, by go_grown⟩
set_option maxHeartbeats 2000000 in
theorem lspan_any (u v : Pl.Ver) (a b : Option Addr) (c d : Nat) (w : World) (h1 : VIn w u a c) (h2 : VIn w v b d) :
 Calls Tryz.prog 69 #[verV u a c, verV v b d] w (RRng [⟨u, v, false⟩] w) := by
 have H := Hd h1
 have K := Hd h2
 clear h1 h2
 go_enter Tryz.func69, Tryz.ntmps69
 have B0 := brl w
 go_wp2_with fail
 have Z := Bk.new (r := w.heap.size + 1 + 1 + 1) (cs := [.int .i64 u.maj, .int .i64 u.min, .int .i64 u.pat, .slice a u.pre.length c, .int .i64 v.maj, .int .i64 v.min, .int .i64 v.pat, .slice b v.pre.length d, .bool false]) (((w.alloc (.cells #[.int .i64 u.maj, .int .i64 u.min, .int .i64 u.pat, .slice a u.pre.length c] 24)).alloc (.cells #[.int .i64 v.maj, .int .i64 v.min, .int .i64 v.pat, .slice b v.pre.length d] 24)).alloc (.cells #[.slice (some ⟨w.heap.size + 1 + 1 + 1, 0, none⟩) 1 1] 33)) 101 (by simp)
 have R := (Bk.new (r := w.heap.size + 1 + 1) (cs := [.slice (some ⟨w.heap.size + 1 + 1 + 1, 0, none⟩) 1 1]) ((w.alloc (.cells #[.int .i64 u.maj, .int .i64 u.min, .int .i64 u.pat, .slice a u.pre.length c] 24)).alloc (.cells #[.int .i64 v.maj, .int .i64 v.min, .int .i64 v.pat, .slice b v.pre.length d] 24)) 33 (by simp)).alloc (.cells #[.int .i64 u.maj, .int .i64 u.min, .int .i64 u.pat, .slice a u.pre.length c, .int .i64 v.maj, .int .i64 v.min, .int .i64 v.pat, .slice b v.pre.length d, .bool false] 101)
 obtain ⟨Rc, Rf, Rl⟩ := R
 refine bodyPost_ret (v := .agg #[.slice (some ⟨w.heap.size + 1 + 1 + 1, 0, none⟩) 1 1]) (by simp [results, Tryz.results69, go_sem, Rc]) rfl ⟨some ⟨w.heap.size + 1 + 1 + 1, 0, none⟩, 1, rfl, RIn.lit Z ⟨a, b, c, d, rfl, H.out.bl (by go_grown), K.out.bl (by go_grown)⟩, by go_grown⟩
end Go.Proofs.YtolfgcoalihmgaaGreatDoor
