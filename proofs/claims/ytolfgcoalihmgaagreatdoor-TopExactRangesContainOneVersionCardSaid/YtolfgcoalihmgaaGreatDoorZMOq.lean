/- Texts joined. -/
import Derived.Test.YtolfgcoalihmgaaGreatDoorZMOc
import Derived.Test.YtolfgcoalihmgaaGreatDoorZMOn
import Derived.Laws.EntriesVeiled
import Derived.Test.YtolfgcoalihmgaaGreatDoorZMDf
import Derived.Test.YtolfgcoalihmgaaGreatDoorZMOb
import Derived.Test.YtolfgcoalihmgaaGreatDoorZMQg
namespace Go.Proofs.YtolfgcoalihmgaaGreatDoor
section
open Go.RowKit
theorem madeCells_one (x : Value) (n : Nat) : madeCells #[x] n = (List.replicate n x).toArray := by
 apply Array.ext
 · rw [size_madeCells]; simp
 · intro i h1 h2
   simp [madeCells, Nat.mod_one]
theorem wp_makeZ {P : Program} {w : World} {ops : Array Oper} {rest : List Oper} {o : Oper} {a : Act} {Q : Exit → Act → World → Prop}
 (hg : o.guard = none) {l c : Operand} {t : TypeId} (hop : o.op = Op.makeSlice t l c) {e : TypeId} {z0 : Value} {bytes : Nat} (ht : P.underlying t = some (.slice e)) (hi : ∃ i z, P.info? e = some i ∧ i.zero = some z ∧ i.size = 1 ∧ i.bytes = bytes ∧ z.cells = #[z0])
 {kl kc : IntKind} (n : Nat) (hl : a.eval l = .int kl (n : Int)) (hc : a.eval c = .int kc (n : Int)) (b2 : bytes * n ≤ 281474976710656) (b3 : n ≤ maxLen)
 (hK : wpList P ops Q rest (a.put o.dst (.slice (some ⟨w.heap.size, 0, none⟩) n n)) (w.alloc (.cells (List.replicate n z0).toArray e))) : wpList P ops Q (o :: rest) a w := by
 obtain ⟨i, z, h1, h2, h3, h4, h5⟩ := hi
 refine wpList_plain hg fun K hK' => ?_
 have h63' : (n : Int) ≤ 9223372036854775807 := by
  have h := b3
  simp [maxLen] at h
  omega
 have hb' : (i.bytes : Int) * (n : Int) ≤ 281474976710656 := by
  have h : ((i.bytes * n : Nat) : Int) ≤ 281474976710656 := by rw [h4]; omega
  rwa [Int.natCast_mul] at h
 have hr := run_make (P := P) w t e i z ht h1 h2 kl kc n n (by omega) (Int.le_refl _) hb' h63'
 simp only [Int.toNat_natCast, h3, Nat.mul_one, h5, madeCells_one] at hr
 unfold Oper.wp
 simp [execOp, hop, hl, hc, hr, Result.andThen]
 exact hK' _ _ hK
theorem intVals_zeros (n : Nat) : intVals (List.replicate n 0) = List.replicate n (.int .i64 0) := by unfold intVals; rw [List.map_replicate]
def Pl.slvR (u : Pl.Uni) (ws : List Pl.Need) : Option (List Int) := if (Pl.wantsF u ws).1 ≠ 0 then none else Pl.best u ws
def RSolve (F : Int × Int) (r : Option (List Int)) (w : World) (e : Ending) (w' : World) : Prop := ∃ o m, e = .returned (.tuple #[.slice o (r.getD []).length m, .bool r.isSome, fltV F]) ∧ Sl w' o (r.getD []).length m 1 (intVals (r.getD [])) ∧ Below w.heap.size w w'
set_option maxRecDepth 100000 in
set_option maxHeartbeats 4000000 in
theorem slv_a (u : Pl.Uni) (ws : List Pl.Need) (a b : Option Addr) (c d : Nat) (w : World) (h1 : UIn w u a c) (h2 : NsIn w ws b d) (f1 f2 : Int) (hf : f1 ≠ 0) (e1 : Pl.wantsF u ws = (f1, f2)) :
 Calls Tryz.prog 43 #[.agg #[.slice a u.length c], .slice b ws.length d] w (RSolve (f1, f2) none w) := by
 have u1 := bneT hf
 have u2 := beqF hf
 clear hf
 have CA := Hd (fun (W : World) (g1 : UIn W u a c) (g2 : NsIn W ws b d) => sArgs_any u ws a b c d W g1 g2)
 rw [e1] at CA
 simp only [fltV] at CA
 have H := Hd h1
 have K := Hd h2
 clear h1 h2 e1
 go_enter Tryz.func43, Tryz.ntmps43
 have B0 := brl w
 go_wp2_with fail
 refine (CA.out _ (H.out.bl (by go_grown)) (K.out.bl (by go_grown))).mono ?_
 rintro e w1 ⟨rfl, hb⟩
 have B1 := bcm w hb
 have q1 : w.heap.size + 2 ≤ w1.heap.size := qle hb
 replace H := Hd (((H.out.al _).al _).bl hb)
 replace K := Hd (((K.out.al _).al _).bl hb)
 have X := (((bkn w.heap.size [.slice a u.length c] 56).alloc _)).bw hb
 have R := ((bkn (w.heap.size + 1) [.int .i64 0, .int .i64 0] 27)).bw hb
 clear hb
 have s1 := B1.size
 have ⟨Xc, Xf, Xl⟩ := X
 have ⟨Rc, Rf, Rl⟩ := R
 go_wp2_with fail
 go_region
 go_wp2_with fail
 refine bodyPost_ret (v := .tuple #[.slice none 0 0, .bool false, .agg #[.int .i64 f1, .int .i64 f2]]) (by simp [results, Tryz.results43, go_sem, Rc, Rl]) rfl ⟨none, 0, rfl, Sl.nil _ 1, by go_grown⟩
set_option maxRecDepth 100000 in
set_option maxHeartbeats 4000000 in
theorem slv_b (u : Pl.Uni) (ws : List Pl.Need) (a b : Option Addr) (c d : Nat) (w : World) (h1 : UIn w u a c) (h2 : NsIn w ws b d) (e1 : Pl.wantsF u ws = (0, 0)) :
 Calls Tryz.prog 43 #[.agg #[.slice a u.length c], .slice b ws.length d] w (RSolve (0, 0) (Pl.best u ws) w) := by
 have CA := Hd (fun (W : World) (g1 : UIn W u a c) (g2 : NsIn W ws b d) => sArgs_any u ws a b c d W g1 g2)
 rw [e1] at CA
 simp only [fltV] at CA
 have OK := Hd (Pl.wantsF_ok.1 (show (Pl.wantsF u ws).1 = 0 by rw [e1]))
 have hu6 := OK.out.1.len
 obtain ⟨best, hbest⟩ : ∃ r, Pl.best u ws = r := ⟨_, rfl⟩
 have SB := Hd ((Pl.srch_best u ws).trans hbest)
 rw [hbest]
 clear hbest
 have H := Hd h1
 have K := Hd h2
 clear h1 h2 e1
 go_enter Tryz.func43, Tryz.ntmps43
 have B0 := brl w
 go_wp2_with fail
 refine (CA.out _ (H.out.bl (by go_grown)) (K.out.bl (by go_grown))).mono ?_
 rintro e w1 ⟨rfl, hb⟩
 have B1 := bcm w hb
 have q1 : w.heap.size + 2 ≤ w1.heap.size := qle hb
 replace H := Hd (((H.out.al _).al _).bl hb)
 replace K := Hd (((K.out.al _).al _).bl hb)
 have X := (((bkn w.heap.size [.slice a u.length c] 56).alloc _)).bw hb
 have R := ((bkn (w.heap.size + 1) [.int .i64 0, .int .i64 0] 27)).bw hb
 clear hb
 have s1 := B1.size
 have ⟨Xc, Xf, Xl⟩ := X
 have ⟨Rc, Rf, Rl⟩ := R
 go_wp2_with fail
 refine (open_any u ws a b c d _ (H.out.bl (by go_grown)) (K.out.bl (by go_grown)) OK.out.1 OK.out.2).mono ?_
 rintro e w2 ⟨o1, k1, o2, k2, rfl, PI, hb⟩
 have B2 := bcm w hb
 have q2 : w1.heap.size + 1 ≤ w2.heap.size := qle hb
 replace H := Hd ((H.out.al _).bl hb)
 replace K := Hd ((K.out.al _).bl hb)
 replace X := ((X.alloc _)).bw hb
 replace R := ((R.alloc _)).bw hb
 clear hb
 have s2 := B2.size
 clear Xc Xf Xl Rc Rf Rl
 have ⟨Xc, Xf, Xl⟩ := X
 have ⟨Rc, Rf, Rl⟩ := R
 replace PI := Hd PI
 have hmf : ∀ (fn : Fn) (first cap : Array Value) (w : World), (Instr.makeFunc fn first cap).run Tryz.prog w = .ok (.func fn first cap) w := fun _ _ _ _ => rfl
 go_wp2_with (at_make; go_loud (refine wp_makeZ (by rfl) (by rfl) Tryz.underlying58 (z0 := .int .i64 0) (bytes := 8) ⟨_, _, rfl, rfl, rfl, rfl, rfl⟩ u.length (by rfl) (by rfl) (by omega) (Nat.le_trans hu6 (by decide)) ?_))
 skip
 have V0 : Bk ((w2.alloc (.cells #[.slice o1 ws.length k1, .slice o2 u.length k2] 118)).alloc (.cells (Array.replicate u.length (.int .i64 0)) 3)) (w2.heap.size + 1) (List.replicate u.length (.int .i64 0)) := Bk.new (cs := List.replicate u.length (.int .i64 0)) _ _ (by simp)
 rw [← intVals_zeros] at V0
 have V := V0.alloc (.cells #[.slice (some ⟨w2.heap.size + 1, 0, none⟩) u.length u.length] 58) |>.alloc (.cells #[.func (.func 94) #[] #[.pointer (some ⟨w2.heap.size + 1 + 1, 0, none⟩), .pointer (some ⟨w2.heap.size, 0, none⟩), .pointer (some ⟨w.heap.size, 0, none⟩), .pointer (some ⟨w2.heap.size + 1 + 1 + 1, 0, none⟩)]] 123)
 have SM : SMem ((((w2.alloc (.cells #[.slice o1 ws.length k1, .slice o2 u.length k2] 118)).alloc (.cells (Array.replicate u.length (.int .i64 0)) 3)).alloc (.cells #[.slice (some ⟨w2.heap.size + 1, 0, none⟩) u.length u.length] 58)).alloc (.cells #[.func (.func 94) #[] #[.pointer (some ⟨w2.heap.size + 1 + 1, 0, none⟩), .pointer (some ⟨w2.heap.size, 0, none⟩), .pointer (some ⟨w.heap.size, 0, none⟩), .pointer (some ⟨w2.heap.size + 1 + 1 + 1, 0, none⟩)]] 123)) w2.heap.size u ws a o1 o2 c k1 k2 (w2.heap.size + 1 + 1) w2.heap.size w.heap.size (w2.heap.size + 1 + 1 + 1) (w2.heap.size + 1) := by
  refine ⟨(Bk.new (r := w2.heap.size + 1 + 1) (cs := [.slice (some ⟨w2.heap.size + 1, 0, none⟩) u.length u.length]) ((w2.alloc (.cells #[.slice o1 ws.length k1, .slice o2 u.length k2] 118)).alloc (.cells (Array.replicate u.length (.int .i64 0)) 3)) 58 (by simp)).alloc (.cells #[.func (.func 94) #[] #[.pointer (some ⟨w2.heap.size + 1 + 1, 0, none⟩), .pointer (some ⟨w2.heap.size, 0, none⟩), .pointer (some ⟨w.heap.size, 0, none⟩), .pointer (some ⟨w2.heap.size + 1 + 1 + 1, 0, none⟩)]] 123), (((Bk.new (r := w2.heap.size) (cs := [.slice o1 ws.length k1, .slice o2 u.length k2]) w2 118 rfl).alloc _).alloc _).alloc _, (((X.alloc _).alloc _).alloc _).alloc _, Bk.new (r := w2.heap.size + 1 + 1 + 1) (cs := [.func (.func 94) #[] #[.pointer (some ⟨w2.heap.size + 1 + 1, 0, none⟩), .pointer (some ⟨w2.heap.size, 0, none⟩), .pointer (some ⟨w.heap.size, 0, none⟩), .pointer (some ⟨w2.heap.size + 1 + 1 + 1, 0, none⟩)]]) (((w2.alloc (.cells #[.slice o1 ws.length k1, .slice o2 u.length k2] 118)).alloc (.cells (Array.replicate u.length (.int .i64 0)) 3)).alloc (.cells #[.slice (some ⟨w2.heap.size + 1, 0, none⟩) u.length u.length] 58)) 123 (by simp), ?_, ?_, ?_, by omega, by omega, by omega, by omega, by omega⟩
  · exact (PI.out.ws.mono (cloD u) (by decide) fun _ _ h => h).below (cloD u) (by decide) (by go_grown) nle
  · exact (PI.out.ns.mono (clo2 u) (by decide) fun _ _ h => h).below (clo2 u) (by decide) (by go_grown) nle
  · intro k hk
    obtain ⟨b0, off, e, hlt, hat⟩ := H.out.at (by omega)
    obtain ⟨a1, c1, I⟩ := hat k hk
    exact ⟨b0, off, a1, c1, e, hlt, by simp; omega, ((Below.refl w2.heap.size w2 |>.alloc nle _ |>.alloc (by go_size) _ |>.alloc (by go_size) _ |>.alloc (by go_size) _).cell (p := ⟨b0, off + k, none⟩) hlt).trans I.e0⟩
 have GR : Below w.heap.size w ((((w2.alloc (.cells #[.slice o1 ws.length k1, .slice o2 u.length k2] 118)).alloc (.cells (Array.replicate u.length (.int .i64 0)) 3)).alloc (.cells #[.slice (some ⟨w2.heap.size + 1, 0, none⟩) u.length u.length] 58)).alloc (.cells #[.func (.func 94) #[] #[.pointer (some ⟨w2.heap.size + 1 + 1, 0, none⟩), .pointer (some ⟨w2.heap.size, 0, none⟩), .pointer (some ⟨w.heap.size, 0, none⟩), .pointer (some ⟨w2.heap.size + 1 + 1 + 1, 0, none⟩)]] 123)) := by go_grown
 refine (srch_any u ws w2.heap.size a o1 o2 c k1 k2 (w2.heap.size + 1 + 1) w2.heap.size w.heap.size (w2.heap.size + 1 + 1 + 1) (w2.heap.size + 1) OK.out.1 OK.out.2 u.length 0 [] (by omega) rfl (fun k h _ => absurd h (by simp)) _ (List.replicate u.length 0) SM V (List.length_replicate ..) (List.take_zero ..)).mono ?_
 rintro e w9 ⟨bb, cs', rfl, hg, V9, hl9, -, AF⟩
 have B9 : Below w.heap.size w w9 := GR.grown hg (by simp; omega) (fun k e => by cases e; omega)
 have s9 := B9.size
 have SM9 := SM.grown hg
 have R9 := ((((R.alloc _).alloc _).alloc _).alloc _).grown hg (fun g e => by cases e; omega)
 obtain ⟨C9c, -, -⟩ := id SM9.C
 clear Xc Xf Xl Rc Rf Rl SM V SM9
 have ⟨Rc, Rf, Rl⟩ := R9
 have E := Hd (SB.out.symm.trans AF)
 clear AF
 cases bb with
 | false =>
   obtain rfl : best = none := E.out
   go_wp2_with fail
   refine bodyPost_ret (v := .tuple #[.slice none 0 0, .bool false, .agg #[.int .i64 0, .int .i64 0]]) (by simp [results, Tryz.results43, go_sem, Rc]) rfl ⟨none, 0, rfl, Sl.nil _ 1, by go_grown⟩
 | true =>
   obtain rfl : best = some cs' := E.out
   go_wp2_with fail
   refine bodyPost_ret (v := .tuple #[.slice (some ⟨w2.heap.size + 1, 0, none⟩) u.length u.length, .bool true, .agg #[.int .i64 0, .int .i64 0]]) (by simp [results, Tryz.results43, go_sem, Rc]) rfl ⟨some ⟨w2.heap.size + 1, 0, none⟩, u.length, by rw [Option.getD_some, hl9]; rfl, ?_, by go_grown⟩
   rw [Option.getD_some, hl9]
   exact ((V9.fr (w.heap.size + 1) 0 (by omega) _).fr (w.heap.size + 1) 1 (by omega) _).sl hl9 hu6
theorem Solve_any (u : Pl.Uni) (ws : List Pl.Need) (a b : Option Addr) (c d : Nat) (w : World) (h1 : UIn w u a c) (h2 : NsIn w ws b d) :
 Calls Tryz.prog 43 #[.agg #[.slice a u.length c], .slice b ws.length d] w (RSolve (Pl.wantsF u ws) (Pl.slvR u ws) w) := by
 unfold Pl.slvR
 by_cases f1 : (Pl.wantsF u ws).1 = 0
 · rw [if_neg (fun e => e f1), (Pl.wantsF_ne f1).1]
   exact slv_b u ws a b c d w h1 h2 (Pl.wantsF_ne f1).1
 · rw [if_pos f1]
   exact slv_a u ws a b c d w h1 h2 _ _ f1 rfl
end
section
open Go.RowKit
theorem VIn.rel (a b d : Int) (W : World) : VIn W ⟨a, b, d, []⟩ none 0 := ⟨⟨by simp [strVals], nle, Nat.zero_le _, .inl rfl⟩, fun s hs => by cases hs⟩
theorem RIn.setBk {w : World} {r : List Pl.Ivl} {a : Option Addr} {c g : Nat} {cs : List Value} (h : RIn w r a c) (hk : Bk w g cs) (hl : cs.length < 9) {j : Nat} {u : Value} (hu : cs[j]? = some u) (hs : ∀ s, u ≠ .string s) (v : Value) : RIn (w.setCell ⟨g, j, none⟩ v) r a c := by
 obtain ⟨es, h1, h2⟩ := h.mem
 refine ⟨es, ⟨h1.hl, h1.hcap, h1.hmax, ?_⟩, h2.mono fun x cc ⟨a, b, c, d, e, g1, g2⟩ => ⟨a, b, c, d, e, g1.setNS (hk.c j hu) hs v, g2.setNS (hk.c j hu) hs v⟩⟩
 rcases h1.mem with h0 | ⟨b, off, rfl, hlt, hc⟩
 · exact .inl h0
 · refine .inr ⟨b, off, rfl, by simpa using hlt, fun i y hy => ?_⟩
   rw [World.cell?_setCell_other]
   · exact hc i y hy
   · intro e
     have e1 : b = g := by injection e with e1 _; first | exact e1 | exact e1.symm
     subst e1
     have hi := (List.getElem?_eq_some_iff.1 hy).1
     have hn : es.length = r.length * 9 := h1.hl
     have hlast : es[i / 9 * 9 + 8]? = some (es[i / 9 * 9 + 8]'(by omega)) := List.getElem?_eq_getElem (by omega)
     have := hc _ _ hlast
     rw [hk.a] at this
     have := (List.getElem?_eq_some_iff.1 this).1
     omega
def SomeB (w : World) (e : Ending) (w' : World) : Prop := (∃ g : Bool, e = .returned (.bool g)) ∧ Below w.heap.size w w'
set_option maxHeartbeats 2000000 in
theorem wide_any (v : Pl.Ver) (a : Option Addr) (c : Nat) (w : World) : Calls Tryz.prog 72 #[verV v a c] w (SomeB w) := by
 go_enter Tryz.func72, Tryz.ntmps72
 go_wp2_with fail
 go_ret
 exact ⟨⟨_, by rfl⟩, by go_grown⟩
set_option maxHeartbeats 4000000 in
theorem great_any (r : List Pl.Ivl) (a : Option Addr) (c : Nat) (w : World) (h : RIn w r a c) : Calls Tryz.prog 20 #[.agg #[.slice a r.length c]] w (SomeB w) := by
 have H := Hd h
 have hm := h.len
 clear h
 go_enter Tryz.func20, Tryz.ntmps20
 have B0 := brl w
 go_wp2_with fail
 have B1 : Below w.heap.size w (w.alloc (.cells #[.slice a r.length c] 33)) := by go_grown
 have q1 : w.heap.size + 1 ≤ (w.alloc (.cells #[.slice a r.length c] 33)).heap.size := by simp only [World.size_alloc]; omega
 have X := (Bk.new (r := w.heap.size) (cs := [.slice a r.length c]) w 33 (by simp))
 generalize (w.alloc (.cells #[.slice a r.length c] 33)) = w1 at *
 have s1 := B1.size
 have ⟨Xc, Xf, Xl⟩ := X
 clear Xc Xf Xl
 go_loopw [3] (fun i wr => ∃ k : Nat, k ≤ r.length ∧ i = .int .i64 k ∧ Bk wr w.heap.size [.slice a r.length c] ∧ Below w.heap.size w wr) (fun i _ => r.length - (intOf i).toNat)
 case atStart => exact ⟨0, Nat.zero_le _, rfl, X, B1⟩
 case round =>
  obtain ⟨k, hk, rfl, X, B9⟩ := hrel
  clear B1 q1 s1
  have s9 := B9.size
  by_cases hlt2 : k < r.length
  · have t5 : decide ((k : Int) < (r.length : Int)) = true := decT (by omega)
    obtain ⟨bb, off, rfl, hltb, hat⟩ := H.out.at (by omega)
    obtain ⟨a1, b1, c1, d1, I0⟩ := hat k hlt2
    have HI := Hd I0
    clear hat I0
    generalize r[k] = x at *
    obtain ⟨e0, e1, e2, e3, e4, e5, e6, e7, e8, VA, VB⟩ := HI.out.below B9 hltb nle
    clear VA VB
    have ⟨Xc, Xf, Xl⟩ := X
    by_cases h40 : (k : Int) < 40
    · have t6 : decide ((k : Int) < 40) = true := decT h40
      have t7 : decide (k < 40) = true := decT (by omega)
      go_wp2_with fail
      refine (wide_any x.lo a1 c1 _).mono ?_
      rintro e w2 ⟨⟨g1, rfl⟩, hb⟩
      have B2 := bcm w hb
      have X2 := X.bw hb
      clear hb Xc Xf Xl e0 e1 e2 e3 e4 e5 e6 e7 e8
      have s2 := B2.size
      have ⟨Xc, Xf, Xl⟩ := X2
      obtain ⟨e0, e1, e2, e3, e4, e5, e6, e7, e8, VA, VB⟩ := HI.out.below B2 hltb nle
      clear VA VB
      cases g1 with
      | true =>
        go_wp2_with fail
        go_ret
        exact ⟨⟨_, by rfl⟩, by go_grown⟩
      | false =>
        go_wp2_with fail
        refine (wide_any x.hi b1 d1 _).mono ?_
        rintro e w3 ⟨⟨g2, rfl⟩, hb⟩
        have B3 := bcm w hb
        have X3 := X2.bw hb
        clear hb Xc Xf Xl e0 e1 e2 e3 e4 e5 e6 e7 e8
        have s3 := B3.size
        have ⟨Xc, Xf, Xl⟩ := X3
        cases g2 with
        | true =>
          go_wp2_with fail
          go_ret
          exact ⟨⟨_, by rfl⟩, by go_grown⟩
        | false =>
          go_wp2_with fail
          go_roundw
          case rel => exact ⟨k + 1, hlt2, by go_num, X3, B3⟩
          case measure => simp [intOf]; omega
    · have t6 : decide ((k : Int) < 40) = false := decF h40
      have t7 : decide (k < 40) = false := decF (by omega)
      go_wp2_with fail
      go_ret
      exact ⟨⟨_, by rfl⟩, by go_grown⟩
  · have t5 : decide ((k : Int) < (r.length : Int)) = false := decF (by omega)
    have ⟨Xc, Xf, Xl⟩ := X
    go_wp2_with fail
    go_ret
    exact ⟨⟨_, by rfl⟩, by go_grown⟩
set_option maxHeartbeats 2000000 in
theorem lspan_any (u v : Pl.Ver) (a b : Option Addr) (c d : Nat) (w : World) (h1 : VIn w u a c) (h2 : VIn w v b d) :
 Calls Tryz.prog 69 #[verV u a c, verV v b d] w (RRng [⟨u, v, false⟩] w) := by
 have H := Hd h1
 have K := Hd h2
 clear h1 h2
 go_enter Tryz.func69, Tryz.ntmps69
 have B0 := brl w
 go_wp2_with fail
 have Z := Bk.new (r := w.heap.size + 1 + 1 + 1) (cs := [.int .i64 u.maj, .int .i64 u.min, .int .i64 u.pat, .slice a u.pre.length c, .int .i64 v.maj, .int .i64 v.min, .int .i64 v.pat, .slice b v.pre.length d, .bool false]) (((w.alloc (.cells #[.int .i64 u.maj, .int .i64 u.min, .int .i64 u.pat, .slice a u.pre.length c] 24)).alloc (.cells #[.int .i64 v.maj, .int .i64 v.min, .int .i64 v.pat, .slice b v.pre.length d] 24)).alloc (.cells #[.slice (some ⟨w.heap.size + 1 + 1 + 1, 0, none⟩) 1 1] 33)) 101 (by simp)
 have R := (Bk.new (r := w.heap.size + 1 + 1) (cs := [.slice (some ⟨w.heap.size + 1 + 1 + 1, 0, none⟩) 1 1]) ((w.alloc (.cells #[.int .i64 u.maj, .int .i64 u.min, .int .i64 u.pat, .slice a u.pre.length c] 24)).alloc (.cells #[.int .i64 v.maj, .int .i64 v.min, .int .i64 v.pat, .slice b v.pre.length d] 24)) 33 (by simp)).alloc (.cells #[.int .i64 u.maj, .int .i64 u.min, .int .i64 u.pat, .slice a u.pre.length c, .int .i64 v.maj, .int .i64 v.min, .int .i64 v.pat, .slice b v.pre.length d, .bool false] 101)
 obtain ⟨Rc, Rf, Rl⟩ := R
 refine bodyPost_ret (v := .agg #[.slice (some ⟨w.heap.size + 1 + 1 + 1, 0, none⟩) 1 1]) (by simp [results, Tryz.results69, go_sem, Rc]) rfl ⟨some ⟨w.heap.size + 1 + 1 + 1, 0, none⟩, 1, rfl, RIn.lit Z ⟨a, b, c, d, rfl, H.out.bl (by go_grown), K.out.bl (by go_grown)⟩, by go_grown⟩
end
section
open Go.RowKit
theorem Pl.lex_step {l m : List Int} {k : Nat} (h1 : k < l.length) (h2 : k < m.length) : Pl.lexLt (l.drop k) (m.drop k) = if l[k] = m[k] then Pl.lexLt (l.drop (k + 1)) (m.drop (k + 1)) else decide (l[k] < m[k]) := by
 rw [List.drop_eq_getElem_cons h1, List.drop_eq_getElem_cons h2]
 rfl
theorem Pl.lex_end {l m : List Int} {k : Nat} (h : l.length ≤ k ∨ m.length ≤ k) : Pl.lexLt (l.drop k) (m.drop k) = false := by
 rcases h with h | h
 · rw [List.drop_of_length_le h]; rfl
 · rw [List.drop_of_length_le h]; cases l.drop k <;> rfl
set_option maxRecDepth 100000 in
set_option maxHeartbeats 2000000 in
theorem less_any (l m : List Int) (a b : Option Addr) (c d : Nat) (w : World) (h1 : Sl w a l.length c 1 (intVals l)) (h2 : Sl w b m.length d 1 (intVals m)) :
 Calls Tryz.prog 47 #[.slice a l.length c, .slice b m.length d] w fun e w' => e = .returned (.bool (Pl.lexLt l m)) ∧ Below w.heap.size w w' := by
 have hm1 := h1.len
 have hm2 := h2.len
 obtain ⟨res, hres⟩ : ∃ r, Pl.lexLt l m = r := ⟨_, rfl⟩
 rw [hres]
 have H := Hd h1
 have K := Hd h2
 have RS := Hd hres
 clear h1 h2 hres
 go_enter Tryz.func47, Tryz.ntmps47
 go_wp2_with fail
 go_loopw [5] (fun i wr => ∃ k : Nat, k ≤ l.length ∧ i = .int .i64 k ∧ Hid (Pl.lexLt (l.drop k) (m.drop k) = res) ∧ Below w.heap.size w wr) (fun i _ => l.length - (intOf i).toNat)
 case atStart => exact ⟨0, Nat.zero_le _, rfl, RS, Below.refl _ _⟩
 case round =>
  obtain ⟨k, hk, rfl, LX, B9⟩ := hrel
  have s9 := B9.size
  by_cases c1 : k < l.length
  · have t1 : decide ((k : Int) < (l.length : Int)) = true := decT (by omega)
    have t1' : decide (k < l.length) = true := decT c1
    by_cases c2 : k < m.length
    · have t2 : decide ((k : Int) < (m.length : Int)) = true := decT (by omega)
      have t2' : decide (k < m.length) = true := decT c2
      obtain ⟨b1, f1, rfl, hlt1, hat1⟩ := Sl.cellsAt (H.out.bl B9) (by omega)
      obtain ⟨b2, f2, rfl, hlt2, hat2⟩ := Sl.cellsAt (K.out.bl B9) (by omega)
      have y1 := hat1 k c1
      have y2 := hat2 k c2
      have i1 : (k : Int) < (l.length : Int) := by omega
      have i2 : (k : Int) < (m.length : Int) := by omega
      have E := Hd ((Pl.lex_step c1 c2).symm.trans LX.out)
      clear hat1 hat2 LX
      generalize l[k] = x at *
      generalize m[k] = z at *
      by_cases e : x = z
      · subst e
        have E2 := Hd ((if_pos rfl).symm.trans E.out)
        have t3 : (x != x) = false := by simp
        clear E
        go_wp2_with fail
        go_quiet (fail)
        go_wp2_with fail
        go_roundw
        case rel => exact ⟨k + 1, by omega, by go_num, E2, Go.below_drewN B9 _⟩
        case measure => simp [intOf]; omega
      · have E2 := Hd ((if_neg e).symm.trans E.out)
        have t3 : (x != z) = true := by simp [e]
        have t4 : (x == z) = false := by simp [e]
        clear E e
        go_wp2_with fail
        go_quiet (fail)
        go_wp2_with fail
        go_quiet (fail)
        go_wp2_with fail
        go_ret
        exact ⟨by rw [← E2.out]; rfl, by first | exact B9 | exact Go.below_drewN B9 _ | exact Go.below_drewN (Go.below_drewN B9 _) _ | go_grown⟩
    · have t2 : decide ((k : Int) < (m.length : Int)) = false := decF (by omega)
      have t2' : decide (k < m.length) = false := decF c2
      have E2 := Hd ((Pl.lex_end (.inr (by omega))).symm.trans LX.out)
      go_wp2_with fail
      go_ret
      exact ⟨by rw [← E2.out]; rfl, by first | exact B9 | exact Go.below_drewN B9 _ | exact Go.below_drewN (Go.below_drewN B9 _) _ | go_grown⟩
  · have t1 : decide ((k : Int) < (l.length : Int)) = false := decF (by omega)
    have t1' : decide (k < l.length) = false := decF c1
    have E2 := Hd ((Pl.lex_end (.inl (by omega))).symm.trans LX.out)
    go_wp2_with fail
    go_ret
    exact ⟨by rw [← E2.out]; rfl, by first | exact B9 | exact Go.below_drewN B9 _ | exact Go.below_drewN (Go.below_drewN B9 _) _ | go_grown⟩
def Pl.intsB (l m : List Int) : Bool := decide (l = m)
theorem Pl.ints_bad {l m : List Int} {k : Nat} (h1 : k < l.length) (h2 : k < m.length) (e : l[k] ≠ m[k]) : Pl.intsB l m = false := decide_eq_false fun h => e (by subst h; rfl)
set_option maxRecDepth 100000 in
set_option maxHeartbeats 2000000 in
theorem intsEq_any (l m : List Int) (a b : Option Addr) (c d : Nat) (w : World) (h1 : Sl w a l.length c 1 (intVals l)) (h2 : Sl w b m.length d 1 (intVals m)) :
 Calls Tryz.prog 46 #[.slice a l.length c, .slice b m.length d] w fun e w' => e = .returned (.bool (Pl.intsB l m)) ∧ Below w.heap.size w w' := by
 have hm1 := h1.len
 have hm2 := h2.len
 obtain ⟨res, hres⟩ : ∃ r, Pl.intsB l m = r := ⟨_, rfl⟩
 rw [hres]
 have H := Hd h1
 have K := Hd h2
 by_cases hn : l.length = m.length
 · have RS := Hd hres
   have s1 : ((l.length : Int) != (m.length : Int)) = false := by simp; omega
   have s2 : (l.length != m.length) = false := by simp; omega
   have s3 : ((l.length : Int) == (m.length : Int)) = true := by simp; omega
   clear h1 h2 hres
   go_enter Tryz.func46, Tryz.ntmps46
   go_wp2_with fail
   go_loopw [5] (fun i wr => ∃ k : Nat, k ≤ l.length ∧ i = .int .i64 k ∧ Hid (∀ j (h : j < l.length) (g : j < m.length), j < k → l[j] = m[j]) ∧ Below w.heap.size w wr) (fun i _ => l.length - (intOf i).toNat)
   case atStart => exact ⟨0, Nat.zero_le _, rfl, Hd (fun _ _ _ h => absurd h (by omega)), Below.refl _ _⟩
   case round =>
    obtain ⟨k, hk, rfl, UP, B9⟩ := hrel
    have s9 := B9.size
    by_cases c1 : k < l.length
    · have t1 : decide ((k : Int) < (l.length : Int)) = true := decT (by omega)
      have t1' : decide (k < l.length) = true := decT c1
      have c2 : k < m.length := by omega
      obtain ⟨b1, f1, rfl, hlt1, hat1⟩ := Sl.cellsAt (H.out.bl B9) (by omega)
      obtain ⟨b2, f2, rfl, hlt2, hat2⟩ := Sl.cellsAt (K.out.bl B9) (by omega)
      have y1 := hat1 k c1
      have y2 := hat2 k c2
      have i1 : (k : Int) < (l.length : Int) := by omega
      have i2 : (k : Int) < (m.length : Int) := by omega
      have GO1 := Hd (fun (e : l[k] = m[k]) (j : Nat) (h : j < l.length) (g : j < m.length) (h3 : j < k + 1) => show l[j] = m[j] from by
       by_cases e2 : j = k
       · subst e2; exact e
       · exact UP.out j h g (by omega))
      have BAD := Hd (fun (e : l[k] ≠ m[k]) => RS.out.symm.trans (Pl.ints_bad c1 c2 e))
      clear hat1 hat2 UP
      generalize l[k] = x at *
      generalize m[k] = z at *
      by_cases e : x = z
      · have E2 := Hd (GO1.out e)
        subst e
        have t3 : (x != x) = false := by simp
        clear GO1 BAD
        go_wp2_with fail
        go_quiet (fail)
        go_wp2_with fail
        go_roundw
        case rel => exact ⟨k + 1, by omega, by go_num, E2, Go.below_drewN B9 _⟩
        case measure => simp [intOf]; omega
      · have E2 := Hd (BAD.out e)
        have t3 : (x != z) = true := by simp [e]
        have t4 : (x == z) = false := by simp [e]
        clear GO1 BAD e
        go_wp2_with fail
        go_quiet (fail)
        go_wp2_with fail
        go_ret
        exact ⟨by rw [E2.out]; rfl, by first | exact B9 | exact Go.below_drewN B9 _ | exact Go.below_drewN (Go.below_drewN B9 _) _ | go_grown⟩
    · have t1 : decide ((k : Int) < (l.length : Int)) = false := decF (by omega)
      have t1' : decide (k < l.length) = false := decF c1
      have E2 := Hd (RS.out.symm.trans (decide_eq_true (List.ext_getElem hn fun j h g => UP.out j h g (by omega))))
      go_wp2_with fail
      go_ret
      exact ⟨by rw [E2.out]; rfl, by first | exact B9 | exact Go.below_drewN B9 _ | exact Go.below_drewN (Go.below_drewN B9 _) _ | go_grown⟩
 · have E2 := Hd (hres.symm.trans (decide_eq_false fun h => hn (by rw [h])))
   have s1 : ((l.length : Int) != (m.length : Int)) = true := by simp; omega
   have s2 : (l.length != m.length) = true := by simp; omega
   have s3 : ((l.length : Int) == (m.length : Int)) = false := by simp; omega
   clear h1 h2 hres
   go_enter Tryz.func46, Tryz.ntmps46
   go_wp2_with fail
   go_ret
   exact ⟨by rw [E2.out]; rfl, by first | exact B9 | exact Go.below_drewN B9 _ | exact Go.below_drewN (Go.below_drewN B9 _) _ | go_grown⟩
def SomeIf (K : Prop) (w : World) (e : Ending) (w' : World) : Prop := (∃ g : Bool, e = .returned (.bool g) ∧ (g = false → K)) ∧ Below w.heap.size w w'
set_option maxRecDepth 100000 in
set_option maxHeartbeats 2000000 in
theorem vastNeeds_any (l : List Pl.Need) (a : Option Addr) (c : Nat) (w : World) (h : NsIn w l a c) : Calls Tryz.prog 84 #[.slice a l.length c] w (SomeIf (l.length ≤ 20) w) := by
 have H := Hd h
 have hm := h.len
 clear h
 go_enter Tryz.func84, Tryz.ntmps84
 go_wp2_with fail
 go_loopw [3] (fun i wr => ∃ k : Nat, k ≤ l.length ∧ i = .int .i64 k ∧ Below w.heap.size w wr) (fun i _ => l.length - (intOf i).toNat)
 case atStart => exact ⟨0, Nat.zero_le _, rfl, Below.refl _ _⟩
 case round =>
  obtain ⟨k, hk, rfl, B9⟩ := hrel
  have s9 := B9.size
  by_cases hlt2 : k < l.length
  · have t5 : decide ((k : Int) < (l.length : Int)) = true := decT (by omega)
    have t5' : decide (k < l.length) = true := decT hlt2
    have i1 : (k : Int) < (l.length : Int) := by omega
    obtain ⟨bb, off, rfl, hltb, hat⟩ := H.out.at (by omega)
    obtain ⟨a1, c1, I0⟩ := hat k hlt2
    clear hat
    generalize l[k] = x at *
    obtain ⟨e0, e1, RI⟩ := I0.below B9 hltb nle
    clear I0 e0
    by_cases h20 : (k : Int) < 20
    · have t6 : decide ((k : Int) < 20) = true := decT h20
      have t7 : decide (k < 20) = true := decT (by omega)
      have GA := Hd (great_any x.rg a1 c1 wr RI)
      clear RI
      go_wp2_with fail
      refine GA.out.mono ?_
      rintro e w2 ⟨⟨g1, rfl⟩, hb⟩
      have B2 : Below w.heap.size w w2 := bcall B9 hb (by omega)
      clear hb e1 GA
      cases g1 with
      | true =>
        go_wp2_with fail
        go_ret
        exact ⟨⟨true, by rfl, fun h => by cases h⟩, B2⟩
      | false =>
        go_wp2_with fail
        go_roundw
        case rel => exact ⟨k + 1, hlt2, by go_num, B2⟩
        case measure => simp [intOf]; omega
    · have t6 : decide ((k : Int) < 20) = false := decF h20
      have t7 : decide (k < 20) = false := decF (by omega)
      have t8 : decide ((l.length : Int) > 20) = true := decT (by omega)
      have t8' : decide ((20 : Int) < (l.length : Int)) = true := decT (by omega)
      have t8'' : decide (20 < l.length) = true := decT (by omega)
      go_wp2_with fail
      go_ret
      exact ⟨⟨true, by rfl, fun h => by cases h⟩, B9⟩
  · have t5 : decide ((k : Int) < (l.length : Int)) = false := decF (by omega)
    have t5' : decide (k < l.length) = false := decF hlt2
    by_cases h22 : l.length > 20
    · have t8 : decide ((l.length : Int) > 20) = true := decT (by omega)
      have t8' : decide ((20 : Int) < (l.length : Int)) = true := decT (by omega)
      have t8'' : decide (20 < l.length) = true := decT (by omega)
      go_wp2_with fail
      go_ret
      exact ⟨⟨true, by rfl, fun h => by cases h⟩, B9⟩
    · have KL : l.length ≤ 20 := by omega
      have t8 : decide ((l.length : Int) > 20) = false := decF (by omega)
      have t8' : decide ((20 : Int) < (l.length : Int)) = false := decF (by omega)
      have t8'' : decide (20 < l.length) = false := decF (by omega)
      go_wp2_with fail
      go_ret
      exact ⟨⟨false, by rfl, fun _ => KL⟩, B9⟩
set_option maxRecDepth 100000 in
set_option maxHeartbeats 8000000 in
theorem vast_any (u : Pl.Uni) (ws : List Pl.Need) (a b : Option Addr) (c d : Nat) (w : World) (h1 : UIn w u a c) (h2 : NsIn w ws b d) : Calls Tryz.prog 36 #[.agg #[.slice a u.length c], .slice b ws.length d] w (SomeIf (ws.length ≤ 20) w) := by
 have H := Hd h1
 have K := Hd h2
 have hm := h1.len
 have hm2 := h2.len
 clear h1 h2
 go_enter Tryz.func36, Tryz.ntmps36
 go_wp2_with fail
 go_loopw [5] (fun i wr => ∃ k : Nat, k ≤ u.length ∧ i = .int .i64 k ∧ Bk wr w.heap.size [.slice a u.length c] ∧ Below w.heap.size w wr) (fun i _ => u.length - (intOf i).toNat)
 case atStart => exact ⟨0, Nat.zero_le _, rfl, Bk.new (cs := [.slice a u.length c]) _ _ rfl, by first | exact B9 | exact Go.below_drewN B9 _ | exact Go.below_drewN (Go.below_drewN B9 _) _ | go_grown⟩
 case round =>
  obtain ⟨p, hp, rfl, X, B9⟩ := hrel
  obtain ⟨v0, rfl⟩ : ∃ W, W = wr := ⟨_, rfl⟩
  have s9 := B9.size
  have ⟨Xc, Xf, Xl⟩ := X
  have FIN := Hd (fun (W : World) (hb : Below w.heap.size w W) => Hd (vastNeeds_any ws b d W (K.out.bl hb)))
  by_cases hlt2 : p < u.length
  · have t5 : decide ((p : Int) < (u.length : Int)) = true := decT (by omega)
    have t5' : decide (p < u.length) = true := decT hlt2
    have i1 : (p : Int) < (u.length : Int) := by omega
    by_cases h20 : (p : Int) < 20
    · have t6 : decide ((p : Int) < 20) = true := decT h20
      have t7 : decide (p < 20) = true := decT (by omega)
      obtain ⟨bb, off, rfl, hltb, hat⟩ := H.out.at (by omega)
      obtain ⟨a1, c1, I0⟩ := hat p hlt2
      clear hat
      have hml := I0.rs.len
      replace I0 := Hd I0
      generalize u[p] = l at *
      have y0 := (B9.cell (p := ⟨bb, off + p, none⟩) hltb).trans I0.out.e0
      have hltv : bb < v0.heap.size := by omega
      by_cases h21 : l.length > 20
      · have t8 : decide ((l.length : Int) > 20) = true := decT (by omega)
        have t8' : decide ((20 : Int) < (l.length : Int)) = true := decT (by omega)
        have t8'' : decide (20 < l.length) = true := decT (by omega)
        go_wp2_with fail
        go_ret
        exact ⟨⟨true, by rfl, fun h => by cases h⟩, B9⟩
      · have t8 : decide ((l.length : Int) > 20) = false := decF (by omega)
        have t8' : decide ((20 : Int) < (l.length : Int)) = false := decF (by omega)
        have t8'' : decide (20 < l.length) = false := decF (by omega)
        go_wp2_with fail
        clear Xc Xf Xl y0 hltv
        go_loopw [6] (fun i wr => ∃ k : Nat, k ≤ l.length ∧ i = .int .i64 k ∧ Bk wr w.heap.size [.slice (some ⟨bb, off, none⟩) u.length c] ∧ Below w.heap.size w wr) (fun i _ => l.length - (intOf i).toNat)
        case atStart => exact ⟨0, Nat.zero_le _, rfl, X, B9⟩
        case round =>
         obtain ⟨k, hk, rfl, X, B9⟩ := hrel
         have s9 := B9.size
         have ⟨Xc, Xf, Xl⟩ := X
         have y0 := (B9.cell (p := ⟨bb, off + p, none⟩) hltb).trans I0.out.e0
         have hltv : bb < wr.heap.size := by omega
         by_cases hlt3 : k < l.length
         · have u5 : decide ((k : Int) < (l.length : Int)) = true := decT (by omega)
           have u5' : decide (k < l.length) = true := decT hlt3
           have i2 : (k : Int) < (l.length : Int) := by omega
           obtain ⟨br, offr, rfl, hltr, hatr⟩ := I0.out.rs.at (by omega)
           obtain ⟨a3, c3, a4, c4, R0⟩ := hatr k hlt3
           replace R0 := Hd R0
           clear hatr
           generalize l[k] = r at *
           obtain ⟨e0, e1, e2, e3, e4, -, -⟩ := R0.out.below B9 hltr nle
           have hltq : br < wr.heap.size := by omega
           go_wp2_with fail
           refine (wide_any r.v a3 c3 _).mono ?_
           rintro e w2 ⟨⟨g1, rfl⟩, hb⟩
           have B2 : Below w.heap.size w w2 := bcall B9 hb (by omega)
           have X2 := X.below hb (by omega)
           have s2 := B2.size
           clear hb Xc Xf Xl y0 hltv hltq e0 e1 e2 e3 e4
           have ⟨Xc, Xf, Xl⟩ := X2
           cases g1 with
           | true =>
             go_wp2_with fail
             go_ret
             exact ⟨⟨true, by rfl, fun h => by cases h⟩, B2⟩
           | false =>
             have y0 := (B2.cell (p := ⟨bb, off + p, none⟩) hltb).trans I0.out.e0
             have hltv : bb < w2.heap.size := by omega
             obtain ⟨e0, e1, e2, e3, e4, -, NS⟩ := R0.out.below B2 hltr nle
             have hltq : br < w2.heap.size := by omega
             have CV := Hd (vastNeeds_any r.ns a4 c4 w2 NS)
             clear NS e0 e1 e2 e3
             go_wp2_with fail
             refine CV.out.mono ?_
             rintro e w3 ⟨⟨g2, rfl, KG⟩, hb⟩
             replace KG := Hd KG
             have B3 : Below w.heap.size w w3 := bcall B2 hb (by omega)
             have X3 := X2.below hb (by omega)
             have s3 := B3.size
             clear hb Xc Xf Xl y0 hltv hltq e4 CV
             have ⟨Xc, Xf, Xl⟩ := X3
             cases g2 with
             | true =>
               go_wp2_with fail
               go_ret
               exact ⟨⟨true, by rfl, fun h => by cases h⟩, B3⟩
             | false =>
               go_wp2_with fail
               go_roundw
               case rel => exact ⟨k + 1, hlt3, by go_num, X3, B3⟩
               case measure => simp [intOf]; omega
         · have u5 : decide ((k : Int) < (l.length : Int)) = false := decF (by omega)
           have u5' : decide (k < l.length) = false := decF hlt3
           go_wp2_with fail
           go_roundw
           case rel => exact ⟨p + 1, hlt2, by go_num, X, B9⟩
           case measure => simp [intOf]; omega
    · have t6 : decide ((p : Int) < 20) = false := decF h20
      have t7 : decide (p < 20) = false := decF (by omega)
      have t8 : decide ((u.length : Int) > 20) = true := decT (by omega)
      have t8' : decide ((20 : Int) < (u.length : Int)) = true := decT (by omega)
      have t8'' : decide (20 < u.length) = true := decT (by omega)
      go_wp2_with fail
      go_ret
      exact ⟨⟨true, by rfl, fun h => by cases h⟩, B9⟩
  · have t5 : decide ((p : Int) < (u.length : Int)) = false := decF (by omega)
    have t5' : decide (p < u.length) = false := decF hlt2
    have ep : p = u.length := by omega
    clear hlt2 hp
    subst ep
    by_cases h22 : u.length > 20
    · have t8 : decide ((u.length : Int) > 20) = true := decT (by omega)
      have t8' : decide ((20 : Int) < (u.length : Int)) = true := decT (by omega)
      have t8'' : decide (20 < u.length) = true := decT (by omega)
      go_wp2_with fail
      go_ret
      exact ⟨⟨true, by rfl, fun h => by cases h⟩, B9⟩
    · have t8 : decide ((u.length : Int) > 20) = false := decF (by omega)
      have t8' : decide ((20 : Int) < (u.length : Int)) = false := decF (by omega)
      have t8'' : decide (20 < u.length) = false := decF (by omega)
      have CV := FIN.out _ B9
      go_wp2_with fail
      refine CV.out.mono ?_
      rintro e w3 ⟨⟨g2, rfl, KG⟩, hb⟩
      replace KG := Hd KG
      have B3 : Below w.heap.size w w3 := bcall B9 hb (by omega)
      clear hb Xc Xf Xl
      go_wp2_with fail
      go_ret
      exact ⟨⟨g2, by rfl, KG.out⟩, B3⟩
end
end Go.Proofs.YtolfgcoalihmgaaGreatDoor
