/- Texts joined: Op Ey Oq Or Os. -/
import Derived.Test.YtgngehfgcogceaaGreatDoorZMOo
import Derived.Test.YtgngehfgcogceaaGreatDoorZMBn
import Derived.Laws.EntriesVeiled
import Derived.Test.YtgngehfgcogceaaGreatDoorZMDf
import Derived.Test.YtgngehfgcogceaaGreatDoorZDh
import Derived.Test.YtgngehfgcogceaaGreatDoorZMQh
import Derived.Test.YtgngehfgcogceaaGreatDoorZMKo
import Derived.Test.YtgngehfgcogceaaGreatDoorZMKl
import Derived.Test.YtgngehfgcogceaaGreatDoorZMKd
section
/- Contract: the best solution (solver.Solve). -/
namespace Go.Proofs.YtgngehfgcogceaaGreatDoor
open Go.RowKit

theorem madeCells_one (x : Value) (n : Nat) : madeCells #[x] n = (List.replicate n x).toArray := by
  apply Array.ext
  · rw [size_madeCells]; simp
  · intro i h1 h2
    simp [madeCells, Nat.mod_one]
/-- make of a slice of as many elements, of one cell each. -/
theorem wp_makeZ {P : Program} {w : World} {ops : Array Oper} {rest : List Oper} {o : Oper} {a : Act} {Q : Exit → Act → World → Prop}
    (hg : o.guard = none) {l c : Operand} {t : TypeId} (hop : o.op = Op.makeSlice t l c) {e : TypeId} {z0 : Value} {bytes : Nat} (ht : P.underlying t = some (.slice e)) (hi : ∃ i z, P.info? e = some i ∧ i.zero = some z ∧ i.size = 1 ∧ i.bytes = bytes ∧ z.cells = #[z0])
    {kl kc : IntKind} (n : Nat) (hl : a.eval l = .int kl (n : Int)) (hc : a.eval c = .int kc (n : Int)) (b2 : bytes * n ≤ 281474976710656) (b3 : n ≤ maxLen)
    (hK : wpList P ops Q rest (a.put o.dst (.slice (some ⟨w.heap.size, 0, none⟩) n n)) (w.alloc (.cells (List.replicate n z0).toArray e))) : wpList P ops Q (o :: rest) a w := by
  obtain ⟨i, z, h1, h2, h3, h4, h5⟩ := hi
  refine wpList_plain hg fun K hK' => ?_
  have h63' : (n : Int) ≤ 9223372036854775807 := by
    have h := b3
    simp [maxLen] at h
    omega
  have hb' : (i.bytes : Int) * (n : Int) ≤ 281474976710656 := by
    have h : ((i.bytes * n : Nat) : Int) ≤ 281474976710656 := by rw [h4]; omega
    rwa [Int.natCast_mul] at h
  have hr := run_make (P := P) w t e i z ht h1 h2 kl kc n n (by omega) (Int.le_refl _) hb' h63'
  simp only [Int.toNat_natCast, h3, Nat.mul_one, h5, madeCells_one] at hr
  unfold Oper.wp
  simp [execOp, hop, hl, hc, hr, Result.andThen]
  exact hK' _ _ hK
theorem intVals_zeros (n : Nat) : intVals (List.replicate n 0) = List.replicate n (.int .i64 0) := by unfold intVals; rw [List.map_replicate]
/-- What solver.Solve answers. -/
def Pl.slvR (u : Pl.Uni) (ws : List Pl.Need) : Option (List Int) := if (Pl.wantsF u ws).1 ≠ 0 then none else Pl.best u ws
def RSolve (F : Int × Int) (r : Option (List Int)) (w : World) (e : Ending) (w' : World) : Prop := ∃ o m, e = .returned (.tuple #[.slice o (r.getD []).length m, .bool r.isSome, fltV F]) ∧ Sl w' o (r.getD []).length m 1 (intVals (r.getD [])) ∧ Below w.heap.size w w'
set_option maxRecDepth 100000 in
set_option maxHeartbeats 4000000 in
theorem slv_a (u : Pl.Uni) (ws : List Pl.Need) (a b : Option Addr) (c d : Nat) (w : World) (h1 : UIn w u a c) (h2 : NsIn w ws b d) (f1 f2 : Int) (hf : f1 ≠ 0) (e1 : Pl.wantsF u ws = (f1, f2)) :
    Calls Tryz.prog 6 #[.agg #[.slice a u.length c], .slice b ws.length d] w (RSolve (f1, f2) none w) := by
  have u1 := bneT hf
  have u2 := beqF hf
  clear hf
  have CA := Lib.hid (fun (W : World) (g1 : UIn W u a c) (g2 : NsIn W ws b d) => sArgs_any u ws a b c d W g1 g2)
  rw [e1] at CA
  simp only [fltV] at CA
  have H := Lib.hid h1
  have K := Lib.hid h2
  clear h1 h2 e1
  go_enter Tryz.func6, Tryz.ntmps6
  have B0 : Below w.heap.size w w := Below.refl _ _
  go_wp2_with fail
  refine (CA.out _ (H.out.below (by go_grown) (Nat.le_refl _)) (K.out.below (by go_grown) (Nat.le_refl _))).mono ?_
  rintro e w1 ⟨rfl, hb⟩
  have B1 : Below w.heap.size w w1 := bcall (by go_grown) hb (by go_size)
  have q1 : w.heap.size + 2 ≤ w1.heap.size := by have z := hb.size; (try simp only [World.size_alloc] at z); omega
  replace H := Lib.hid (((H.out.below (Below.refl _ _ |>.alloc (Nat.le_refl _) _) (Nat.le_refl _)).below (Below.refl _ _ |>.alloc (Nat.le_refl _) _) (Nat.le_refl _)).below hb (Nat.le_refl _))
  replace K := Lib.hid (((K.out.below (Below.refl _ _ |>.alloc (Nat.le_refl _) _) (Nat.le_refl _)).below (Below.refl _ _ |>.alloc (Nat.le_refl _) _) (Nat.le_refl _)).below hb (Nat.le_refl _))
  have X := (((Bk.new (r := w.heap.size) (cs := [.slice a u.length c]) _ 24 (by simp)).alloc _)).below hb (by go_size)
  have R := ((Bk.new (r := w.heap.size + 1) (cs := [.int .i64 0, .int .i64 0]) _ 30 (by simp))).below hb (by go_size)
  clear hb
  have s1 : w.heap.size ≤ w1.heap.size := B1.size
  obtain ⟨X_c, X_f, X_l⟩ := id X
  obtain ⟨R_c, R_f, R_l⟩ := id R
  go_wp2_with fail
  go_region
  go_wp2_with fail
  refine bodyPost_ret (v := .tuple #[.slice none 0 0, .bool false, .agg #[.int .i64 f1, .int .i64 f2]]) (by simp [results, Tryz.results6, go_sem, R_c, R_l]) rfl ⟨none, 0, rfl, Sl.nil _ 1, by go_grown⟩
set_option maxRecDepth 100000 in
set_option maxHeartbeats 4000000 in
theorem slv_b (u : Pl.Uni) (ws : List Pl.Need) (a b : Option Addr) (c d : Nat) (w : World) (h1 : UIn w u a c) (h2 : NsIn w ws b d) (e1 : Pl.wantsF u ws = (0, 0)) :
    Calls Tryz.prog 6 #[.agg #[.slice a u.length c], .slice b ws.length d] w (RSolve (0, 0) (Pl.best u ws) w) := by
  have CA := Lib.hid (fun (W : World) (g1 : UIn W u a c) (g2 : NsIn W ws b d) => sArgs_any u ws a b c d W g1 g2)
  rw [e1] at CA
  simp only [fltV] at CA
  have OK := Lib.hid (Pl.wantsF_ok.1 (show (Pl.wantsF u ws).1 = 0 by rw [e1]))
  have hu6 := OK.out.1.len
  obtain ⟨best, hbest⟩ : ∃ r, Pl.best u ws = r := ⟨_, rfl⟩
  have SB := Lib.hid ((Pl.srch_best u ws).trans hbest)
  rw [hbest]
  clear hbest
  have H := Lib.hid h1
  have K := Lib.hid h2
  clear h1 h2 e1
  go_enter Tryz.func6, Tryz.ntmps6
  have B0 : Below w.heap.size w w := Below.refl _ _
  go_wp2_with fail
  refine (CA.out _ (H.out.below (by go_grown) (Nat.le_refl _)) (K.out.below (by go_grown) (Nat.le_refl _))).mono ?_
  rintro e w1 ⟨rfl, hb⟩
  have B1 : Below w.heap.size w w1 := bcall (by go_grown) hb (by go_size)
  have q1 : w.heap.size + 2 ≤ w1.heap.size := by have z := hb.size; (try simp only [World.size_alloc] at z); omega
  replace H := Lib.hid (((H.out.below (Below.refl _ _ |>.alloc (Nat.le_refl _) _) (Nat.le_refl _)).below (Below.refl _ _ |>.alloc (Nat.le_refl _) _) (Nat.le_refl _)).below hb (Nat.le_refl _))
  replace K := Lib.hid (((K.out.below (Below.refl _ _ |>.alloc (Nat.le_refl _) _) (Nat.le_refl _)).below (Below.refl _ _ |>.alloc (Nat.le_refl _) _) (Nat.le_refl _)).below hb (Nat.le_refl _))
  have X := (((Bk.new (r := w.heap.size) (cs := [.slice a u.length c]) _ 24 (by simp)).alloc _)).below hb (by go_size)
  have R := ((Bk.new (r := w.heap.size + 1) (cs := [.int .i64 0, .int .i64 0]) _ 30 (by simp))).below hb (by go_size)
  clear hb
  have s1 : w.heap.size ≤ w1.heap.size := B1.size
  obtain ⟨X_c, X_f, X_l⟩ := id X
  obtain ⟨R_c, R_f, R_l⟩ := id R
  go_wp2_with fail
  refine (open_any u ws a b c d _ (H.out.below (by go_grown) (Nat.le_refl _)) (K.out.below (by go_grown) (Nat.le_refl _)) OK.out.1 OK.out.2).mono ?_
  rintro e w2 ⟨o1, k1, o2, k2, rfl, PI, hb⟩
  have B2 : Below w.heap.size w w2 := bcall (by go_grown) hb (by go_size)
  have q2 : w1.heap.size + 1 ≤ w2.heap.size := by have z := hb.size; (try simp only [World.size_alloc] at z); omega
  replace H := Lib.hid ((H.out.below (Below.refl _ _ |>.alloc (Nat.le_refl _) _) (Nat.le_refl _)).below hb (Nat.le_refl _))
  replace K := Lib.hid ((K.out.below (Below.refl _ _ |>.alloc (Nat.le_refl _) _) (Nat.le_refl _)).below hb (Nat.le_refl _))
  replace X := ((X.alloc _)).below hb (by go_size)
  replace R := ((R.alloc _)).below hb (by go_size)
  clear hb
  have s2 : w.heap.size ≤ w2.heap.size := B2.size
  clear X_c X_f X_l R_c R_f R_l
  obtain ⟨X_c, X_f, X_l⟩ := id X
  obtain ⟨R_c, R_f, R_l⟩ := id R
  replace PI := Lib.hid PI
  have hmf : ∀ (fn : Fn) (first cap : Array Value) (w : World), (Instr.makeFunc fn first cap).run Tryz.prog w = .ok (.func fn first cap) w := fun _ _ _ _ => rfl
  go_wp2_with (at_make; go_loud (refine wp_makeZ (by rfl) (by rfl) Tryz.underlying28 (z0 := .int .i64 0) (bytes := 8) ⟨_, _, rfl, rfl, rfl, rfl, rfl⟩ u.length (by rfl) (by rfl) (by omega) (Nat.le_trans hu6 (by decide)) ?_))
  skip
  have V0 : Bk ((w2.alloc (.cells #[.slice o1 ws.length k1, .slice o2 u.length k2] 63)).alloc (.cells (Array.replicate u.length (.int .i64 0)) 3)) (w2.heap.size + 1) (List.replicate u.length (.int .i64 0)) := Bk.new (cs := List.replicate u.length (.int .i64 0)) _ _ (by simp)
  rw [← intVals_zeros] at V0
  have V := V0.alloc (.cells #[.slice (some ⟨w2.heap.size + 1, 0, none⟩) u.length u.length] 28) |>.alloc (.cells #[.func (.func 16) #[] #[.pointer (some ⟨w2.heap.size + 1 + 1, 0, none⟩), .pointer (some ⟨w2.heap.size, 0, none⟩), .pointer (some ⟨w.heap.size, 0, none⟩), .pointer (some ⟨w2.heap.size + 1 + 1 + 1, 0, none⟩)]] 65)
  have SM : SMem ((((w2.alloc (.cells #[.slice o1 ws.length k1, .slice o2 u.length k2] 63)).alloc (.cells (Array.replicate u.length (.int .i64 0)) 3)).alloc (.cells #[.slice (some ⟨w2.heap.size + 1, 0, none⟩) u.length u.length] 28)).alloc (.cells #[.func (.func 16) #[] #[.pointer (some ⟨w2.heap.size + 1 + 1, 0, none⟩), .pointer (some ⟨w2.heap.size, 0, none⟩), .pointer (some ⟨w.heap.size, 0, none⟩), .pointer (some ⟨w2.heap.size + 1 + 1 + 1, 0, none⟩)]] 65)) w2.heap.size u ws a o1 o2 c k1 k2 (w2.heap.size + 1 + 1) w2.heap.size w.heap.size (w2.heap.size + 1 + 1 + 1) (w2.heap.size + 1) := by
    refine ⟨(Bk.new (r := w2.heap.size + 1 + 1) (cs := [.slice (some ⟨w2.heap.size + 1, 0, none⟩) u.length u.length]) ((w2.alloc (.cells #[.slice o1 ws.length k1, .slice o2 u.length k2] 63)).alloc (.cells (Array.replicate u.length (.int .i64 0)) 3)) 28 (by simp)).alloc (.cells #[.func (.func 16) #[] #[.pointer (some ⟨w2.heap.size + 1 + 1, 0, none⟩), .pointer (some ⟨w2.heap.size, 0, none⟩), .pointer (some ⟨w.heap.size, 0, none⟩), .pointer (some ⟨w2.heap.size + 1 + 1 + 1, 0, none⟩)]] 65), (((Bk.new (r := w2.heap.size) (cs := [.slice o1 ws.length k1, .slice o2 u.length k2]) w2 63 rfl).alloc _).alloc _).alloc _, (((X.alloc _).alloc _).alloc _).alloc _, Bk.new (r := w2.heap.size + 1 + 1 + 1) (cs := [.func (.func 16) #[] #[.pointer (some ⟨w2.heap.size + 1 + 1, 0, none⟩), .pointer (some ⟨w2.heap.size, 0, none⟩), .pointer (some ⟨w.heap.size, 0, none⟩), .pointer (some ⟨w2.heap.size + 1 + 1 + 1, 0, none⟩)]]) (((w2.alloc (.cells #[.slice o1 ws.length k1, .slice o2 u.length k2] 63)).alloc (.cells (Array.replicate u.length (.int .i64 0)) 3)).alloc (.cells #[.slice (some ⟨w2.heap.size + 1, 0, none⟩) u.length u.length] 28)) 65 (by simp), ?_, ?_, ?_, by omega, by omega, by omega, by omega, by omega⟩
    · exact (PI.out.ws.mono (cloD u) (by decide) fun _ _ h => h).below (cloD u) (by decide) (by go_grown) (Nat.le_refl _)
    · exact (PI.out.ns.mono (clo2 u) (by decide) fun _ _ h => h).below (clo2 u) (by decide) (by go_grown) (Nat.le_refl _)
    · intro k hk
      obtain ⟨b0, off, e, hlt, hat⟩ := H.out.at (by omega)
      obtain ⟨a1, c1, I⟩ := hat k hk
      exact ⟨b0, off, a1, c1, e, hlt, by simp; omega, ((Below.refl w2.heap.size w2 |>.alloc (Nat.le_refl _) _ |>.alloc (by go_size) _ |>.alloc (by go_size) _ |>.alloc (by go_size) _).cell (p := ⟨b0, off + k, none⟩) hlt).trans I.e0⟩
  have GR : Below w.heap.size w ((((w2.alloc (.cells #[.slice o1 ws.length k1, .slice o2 u.length k2] 63)).alloc (.cells (Array.replicate u.length (.int .i64 0)) 3)).alloc (.cells #[.slice (some ⟨w2.heap.size + 1, 0, none⟩) u.length u.length] 28)).alloc (.cells #[.func (.func 16) #[] #[.pointer (some ⟨w2.heap.size + 1 + 1, 0, none⟩), .pointer (some ⟨w2.heap.size, 0, none⟩), .pointer (some ⟨w.heap.size, 0, none⟩), .pointer (some ⟨w2.heap.size + 1 + 1 + 1, 0, none⟩)]] 65)) := by go_grown
  refine (srch_any u ws w2.heap.size a o1 o2 c k1 k2 (w2.heap.size + 1 + 1) w2.heap.size w.heap.size (w2.heap.size + 1 + 1 + 1) (w2.heap.size + 1) OK.out.1 OK.out.2 u.length 0 [] (by omega) rfl (fun k h _ => absurd h (by simp)) _ (List.replicate u.length 0) SM V (List.length_replicate ..) (List.take_zero ..)).mono ?_
  rintro e w9 ⟨bb, cs', rfl, hg, V9, hl9, -, AF⟩
  have B9 : Below w.heap.size w w9 := GR.grown hg (by simp; omega) (fun k e => by cases e; omega)
  have s9 := B9.size
  have SM9 := SM.grown hg
  have R9 := ((((R.alloc _).alloc _).alloc _).alloc _).grown hg (fun g e => by cases e; omega)
  obtain ⟨C9_c, -, -⟩ := id SM9.C
  clear X_c X_f X_l R_c R_f R_l SM V SM9
  obtain ⟨R_c, R_f, R_l⟩ := id R9
  have E := Lib.hid (SB.out.symm.trans AF)
  clear AF
  cases bb with
  | false =>
    obtain rfl : best = none := E.out
    go_wp2_with fail
    refine bodyPost_ret (v := .tuple #[.slice none 0 0, .bool false, .agg #[.int .i64 0, .int .i64 0]]) (by simp [results, Tryz.results6, go_sem, R_c]) rfl ⟨none, 0, rfl, Sl.nil _ 1, by go_grown⟩
  | true =>
    obtain rfl : best = some cs' := E.out
    go_wp2_with fail
    refine bodyPost_ret (v := .tuple #[.slice (some ⟨w2.heap.size + 1, 0, none⟩) u.length u.length, .bool true, .agg #[.int .i64 0, .int .i64 0]]) (by simp [results, Tryz.results6, go_sem, R_c]) rfl ⟨some ⟨w2.heap.size + 1, 0, none⟩, u.length, by rw [Option.getD_some, hl9]; rfl, ?_, by go_grown⟩
    rw [Option.getD_some, hl9]
    exact ((V9.far (a := ⟨w.heap.size + 1, 0, none⟩) (by dsimp only; omega) _).far (a := ⟨w.heap.size + 1, 1, none⟩) (by dsimp only; omega) _).sl hl9 hu6
theorem Solve_any (u : Pl.Uni) (ws : List Pl.Need) (a b : Option Addr) (c d : Nat) (w : World) (h1 : UIn w u a c) (h2 : NsIn w ws b d) :
    Calls Tryz.prog 6 #[.agg #[.slice a u.length c], .slice b ws.length d] w (RSolve (Pl.wantsF u ws) (Pl.slvR u ws) w) := by
  unfold Pl.slvR
  by_cases f1 : (Pl.wantsF u ws).1 = 0
  · rw [if_neg (fun e => e f1), (Pl.wantsF_ne f1).1]
    exact slv_b u ws a b c d w h1 h2 (Pl.wantsF_ne f1).1
  · rw [if_pos f1]
    exact slv_a u ws a b c d w h1 h2 _ _ f1 rfl
end Go.Proofs.YtgngehfgcogceaaGreatDoor

end
section
/- Contracts of the laws' small functions: wide, great, span. -/
namespace Go.Proofs.YtgngehfgcogceaaGreatDoor
open Go.RowKit

theorem VIn.rel (a b d : Int) (W : World) : VIn W ⟨a, b, d, []⟩ none 0 := ⟨⟨by simp [strVals], Nat.le_refl _, Nat.zero_le _, .inl rfl⟩, fun s hs => by cases hs⟩
/-- A store into a small block that is not the row's. -/
theorem RIn.setBk {w : World} {r : List Pl.Ivl} {a : Option Addr} {c g : Nat} {cs : List Value} (h : RIn w r a c) (hk : Bk w g cs) (hl : cs.length < 9) {j : Nat} {u : Value} (hu : cs[j]? = some u) (hs : ∀ s, u ≠ .string s) (v : Value) : RIn (w.setCell ⟨g, j, none⟩ v) r a c := by
  obtain ⟨es, h1, h2⟩ := h.mem
  refine ⟨es, ⟨h1.hl, h1.hcap, h1.hmax, ?_⟩, h2.mono fun x cc ⟨a, b, c, d, e, g1, g2⟩ => ⟨a, b, c, d, e, g1.setNS (hk.c j hu) hs v, g2.setNS (hk.c j hu) hs v⟩⟩
  rcases h1.mem with h0 | ⟨b, off, rfl, hlt, hc⟩
  · exact .inl h0
  · refine .inr ⟨b, off, rfl, by simpa using hlt, fun i y hy => ?_⟩
    rw [World.cell?_setCell_other]
    · exact hc i y hy
    · intro e
      have e1 : b = g := by injection e with e1 _; first | exact e1 | exact e1.symm
      subst e1
      have hi := (List.getElem?_eq_some_iff.1 hy).1
      have hn : es.length = r.length * 9 := h1.hl
      -- the last cell of the interval would lie in the small block
      have hlast : es[i / 9 * 9 + 8]? = some (es[i / 9 * 9 + 8]'(by omega)) := List.getElem?_eq_getElem (by omega)
      have := hc _ _ hlast
      rw [hk.a] at this
      have := (List.getElem?_eq_some_iff.1 this).1
      omega

end Go.Proofs.YtgngehfgcogceaaGreatDoor

end
section
/- Contracts of the laws' small functions for universes: less, vastNeeds, vast; Ints of the reference. -/
namespace Go.Proofs.YtgngehfgcogceaaGreatDoor
open Go.RowKit
def Pl.intsB (l m : List Int) : Bool := decide (l = m)
theorem Pl.ints_bad {l m : List Int} {k : Nat} (h1 : k < l.length) (h2 : k < m.length) (e : l[k] ≠ m[k]) : Pl.intsB l m = false := decide_eq_false fun h => e (by subst h; rfl)
set_option maxRecDepth 100000 in
set_option maxHeartbeats 2000000 in
theorem intsEq_any (l m : List Int) (a b : Option Addr) (c d : Nat) (w : World) (h1 : Sl w a l.length c 1 (intVals l)) (h2 : Sl w b m.length d 1 (intVals m)) :
    Calls Tryz.prog 13 #[.slice a l.length c, .slice b m.length d] w fun e w' => e = .returned (.bool (Pl.intsB l m)) ∧ Below w.heap.size w w' := by
  have hm1 := h1.len
  have hm2 := h2.len
  obtain ⟨res, hres⟩ : ∃ r, Pl.intsB l m = r := ⟨_, rfl⟩
  rw [hres]
  have H := Lib.hid h1
  have K := Lib.hid h2
  by_cases hn : l.length = m.length
  · have RS := Lib.hid hres
    have s1 : ((l.length : Int) != (m.length : Int)) = false := by simp; omega
    have s2 : (l.length != m.length) = false := by simp; omega
    have s3 : ((l.length : Int) == (m.length : Int)) = true := by simp; omega
    clear h1 h2 hres
    go_enter Tryz.func13, Tryz.ntmps13
    go_wp2_with fail
    go_loopw [5] (fun i wr => ∃ k : Nat, k ≤ l.length ∧ i = .int .i64 k ∧ Hid (∀ j (h : j < l.length) (g : j < m.length), j < k → l[j] = m[j]) ∧ Below w.heap.size w wr) (fun i _ => l.length - (intOf i).toNat)
    case atStart => exact ⟨0, Nat.zero_le _, rfl, Lib.hid (fun _ _ _ h => absurd h (by omega)), Below.refl _ _⟩
    case round =>
      obtain ⟨k, hk, rfl, UP, B9⟩ := hrel
      have s9 := B9.size
      by_cases c1 : k < l.length
      · have t1 : decide ((k : Int) < (l.length : Int)) = true := decT (by omega)
        have t1' : decide (k < l.length) = true := decT c1
        have c2 : k < m.length := by omega
        obtain ⟨b1, f1, rfl, hlt1, hat1⟩ := Sl.cellsAt (H.out.below B9 (Nat.le_refl _)) (by omega)
        obtain ⟨b2, f2, rfl, hlt2, hat2⟩ := Sl.cellsAt (K.out.below B9 (Nat.le_refl _)) (by omega)
        have y1 := hat1 k c1
        have y2 := hat2 k c2
        have i1 : (k : Int) < (l.length : Int) := by omega
        have i2 : (k : Int) < (m.length : Int) := by omega
        have GO1 := Lib.hid (fun (e : l[k] = m[k]) (j : Nat) (h : j < l.length) (g : j < m.length) (h3 : j < k + 1) => show l[j] = m[j] from by
          by_cases e2 : j = k
          · subst e2; exact e
          · exact UP.out j h g (by omega))
        have BAD := Lib.hid (fun (e : l[k] ≠ m[k]) => RS.out.symm.trans (Pl.ints_bad c1 c2 e))
        clear hat1 hat2 UP
        generalize l[k] = x at *
        generalize m[k] = z at *
        by_cases e : x = z
        · have E2 := Lib.hid (GO1.out e)
          subst e
          have t3 : (x != x) = false := by simp
          clear GO1 BAD
          go_wp2_with fail
          go_quiet (fail)
          go_wp2_with fail
          go_roundw
          case rel => exact ⟨k + 1, by omega, by go_num, E2, Go.below_drewN B9 _⟩
          case measure => simp [intOf]; omega
        · have E2 := Lib.hid (BAD.out e)
          have t3 : (x != z) = true := by simp [e]
          have t4 : (x == z) = false := by simp [e]
          clear GO1 BAD e
          go_wp2_with fail
          go_quiet (fail)
          go_wp2_with fail
          go_ret
          exact ⟨by rw [E2.out]; rfl, by first | exact B9 | exact Go.below_drewN B9 _ | exact Go.below_drewN (Go.below_drewN B9 _) _ | go_grown⟩
      · have t1 : decide ((k : Int) < (l.length : Int)) = false := decF (by omega)
        have t1' : decide (k < l.length) = false := decF c1
        have E2 := Lib.hid (RS.out.symm.trans (decide_eq_true (List.ext_getElem hn fun j h g => UP.out j h g (by omega))))
        go_wp2_with fail
        go_ret
        exact ⟨by rw [E2.out]; rfl, by first | exact B9 | exact Go.below_drewN B9 _ | exact Go.below_drewN (Go.below_drewN B9 _) _ | go_grown⟩
  · have E2 := Lib.hid (hres.symm.trans (decide_eq_false fun h => hn (by rw [h])))
    have s1 : ((l.length : Int) != (m.length : Int)) = true := by simp; omega
    have s2 : (l.length != m.length) = true := by simp; omega
    have s3 : ((l.length : Int) == (m.length : Int)) = false := by simp; omega
    clear h1 h2 hres
    go_enter Tryz.func13, Tryz.ntmps13
    go_wp2_with fail
    go_ret
    exact ⟨by rw [E2.out]; rfl, by first | exact B9 | exact Go.below_drewN B9 _ | exact Go.below_drewN (Go.below_drewN B9 _) _ | go_grown⟩
end Go.Proofs.YtgngehfgcogceaaGreatDoor

end
section
/- Contracts of the laws' small functions for universes: universe, anyVersion. -/
namespace Go.Proofs.YtgngehfgcogceaaGreatDoor
open Go.RowKit

/-- A block that was laid: its cells. -/
def Lit (w : World) (r : Nat) (cs : List Value) : Prop := r < w.heap.size ∧ ∀ j u, cs[j]? = some u → w.cell? ⟨r, j, none⟩ = some u
theorem Lit.under {w w' : World} {r : Nat} {cs : List Value} (h : Lit w r cs) (hx : Ext w w') : Lit w' r cs := ⟨Nat.lt_of_lt_of_le h.1 hx.size, fun j u hu => hx.cell _ _ (h.2 j u hu)⟩
theorem Lit.new (w : World) (cs : List Value) (t : TypeId) : Lit (w.alloc (.cells cs.toArray t)) w.heap.size cs := by
  have h := Bk.new (r := w.heap.size) (cs := cs) w t rfl
  exact ⟨h.lt, fun j u hu => h.c j hu⟩
theorem Lit.alloc {w : World} {r : Nat} {cs : List Value} (h : Lit w r cs) (o : Obj) : Lit (w.alloc o) r cs := h.under (Below.ext ((Below.refl _ _).alloc (Nat.le_refl _) _))
theorem Lit.far {w : World} {r : Nat} {cs : List Value} (h : Lit w r cs) {a : Addr} (hne : a.block < r) (v : Value) : Lit (w.setCell a v) r cs :=
  ⟨by simpa using h.1, fun j u hu => by
    rw [World.cell?_setCell_other _ _ _ _ (by intro e; have := congrArg Addr.block e; dsimp only at this; omega)]
    exact h.2 j u hu⟩
theorem Lit.fr {w : World} {r : Nat} {cs : List Value} (h : Lit w r cs) (b o : Nat) (hne : b < r) (v : Value) : Lit (w.setCell ⟨b, o, none⟩ v) r cs := h.far hne v
theorem Lit.sl {w : World} {r : Nat} {cs : List Value} (h : Lit w r cs) {n sz : Nat} (hn : cs.length = n * sz) (hm : n ≤ maxLen) : Sl w (some ⟨r, 0, none⟩) n n sz cs :=
  ⟨hn, Nat.le_refl _, hm, .inr ⟨r, 0, rfl, h.1, fun j u hu => by rw [Nat.zero_add]; exact h.2 j u hu⟩⟩
def rl0 (x : Int) : List Value := [.int .i64 x, .int .i64 0, .int .i64 0, .slice none 0 0, .slice none 0 0]
def rl1 (g : Nat) : List Value := [.int .i64 1, .int .i64 0, .int .i64 0, .slice none 0 0, .slice none 0 0, .int .i64 2, .int .i64 0, .int .i64 0, .slice none 0 0, .slice (some ⟨g, 0, none⟩) 1 1]
def Hold.l (B : Nat) (n : Nat) (cs : List Value) : Hold := ⟨fun u w => ∃ r, u = .slice (some ⟨r, 0, none⟩) n n ∧ B ≤ r ∧ Lit w r cs, fun _ _ _ ⟨r, h1, h2, h3⟩ hb => ⟨r, h1, h2, h3.under hb⟩⟩
def Hold.r1 (B : Nat) (cs : List Value) : Hold := ⟨fun u w => ∃ r, u = .agg #[.int .i64 2, .int .i64 0, .int .i64 0, .slice none 0 0, .slice (some ⟨r, 0, none⟩) 1 1] ∧ B ≤ r ∧ Lit w r cs, fun _ _ _ ⟨r, h1, h2, h3⟩ hb => ⟨r, h1, h2, h3.under hb⟩⟩
def Hold.rs (B : Nat) (cs : List Value) : Hold := ⟨fun u w => ∃ r g, u = .slice (some ⟨r, 0, none⟩) 2 2 ∧ B ≤ r ∧ B ≤ g ∧ Lit w r (rl1 g) ∧ Lit w g cs, fun _ _ _ ⟨r, g, h1, h2, h3, h4, h5⟩ hb => ⟨r, g, h1, h2, h3, h4.under hb, h5.under hb⟩⟩
/-- The whole: the packages, their releases, the needs. -/
def UAll (w : World) (B : Nat) (cs : List Value) (p x g y : Nat) : Prop := B ≤ p ∧ B ≤ x ∧ B ≤ g ∧ B ≤ y ∧ Lit w p [.slice (some ⟨x, 0, none⟩) 2 2, .slice (some ⟨y, 0, none⟩) 1 1] ∧ Lit w x (rl1 g) ∧ Lit w g cs ∧ Lit w y (rl0 1)
theorem UAll.under {w w' : World} {B : Nat} {cs : List Value} {p x g y : Nat} (h : UAll w B cs p x g y) (hb : Ext w w') : UAll w' B cs p x g y := ⟨h.1, h.2.1, h.2.2.1, h.2.2.2.1, h.2.2.2.2.1.under hb, h.2.2.2.2.2.1.under hb, h.2.2.2.2.2.2.1.under hb, h.2.2.2.2.2.2.2.under hb⟩
def Hold.ps (B : Nat) (cs : List Value) : Hold := ⟨fun u w => ∃ p x g y, u = .slice (some ⟨p, 0, none⟩) 2 2 ∧ UAll w B cs p x g y, fun _ _ _ ⟨p, x, g, y, h1, h2⟩ hb => ⟨p, x, g, y, h1, h2.under hb⟩⟩
def Hold.un (B : Nat) (cs : List Value) : Hold := ⟨fun u w => ∃ p x g y, u = .agg #[.slice (some ⟨p, 0, none⟩) 2 2] ∧ UAll w B cs p x g y, fun _ _ _ ⟨p, x, g, y, h1, h2⟩ hb => ⟨p, x, g, y, h1, h2.under hb⟩⟩
/-- The example's universe. -/
def Pl.exU : Pl.Uni := [[⟨⟨1, 0, 0, []⟩, []⟩, ⟨⟨2, 0, 0, []⟩, [⟨1, [⟨⟨2, 0, 0, []⟩, ⟨3, 0, 0, []⟩, false⟩]⟩]⟩], [⟨⟨1, 0, 0, []⟩, []⟩]]
theorem UAll.uni {w : World} {B p x g y : Nat} {a : Option Addr} {c : Nat} (h : UAll w B [.int .i64 1, .slice a 1 c] p x g y) (hr : RIn w [⟨⟨2, 0, 0, []⟩, ⟨3, 0, 0, []⟩, false⟩] a c) : UIn w Pl.exU (some ⟨p, 0, none⟩) 2 := by
  obtain ⟨_, _, _, _, l1, l2, l3, l4⟩ := h
  have m1 : (1 : Nat) ≤ maxLen := by decide
  have m2 : (2 : Nat) ≤ maxLen := by decide
  have n0 : NsIn w [] none 0 := NsIn.nil w
  have n1 : NsIn w [⟨1, [⟨⟨2, 0, 0, []⟩, ⟨3, 0, 0, []⟩, false⟩]⟩] (some ⟨g, 0, none⟩) 1 := ⟨_, l3.sl (n := 1) (sz := 2) rfl m1, Elems.one ⟨a, c, rfl, hr⟩ rfl⟩
  have r0 : RlIs w ⟨⟨1, 0, 0, []⟩, []⟩ (rl0 1) := ⟨none, 0, none, 0, rfl, VIn.rel 1 0 0 w, n0⟩
  have r1 : RlIs w ⟨⟨2, 0, 0, []⟩, [⟨1, [⟨⟨2, 0, 0, []⟩, ⟨3, 0, 0, []⟩, false⟩]⟩]⟩ [.int .i64 2, .int .i64 0, .int .i64 0, .slice none 0 0, .slice (some ⟨g, 0, none⟩) 1 1] := ⟨none, 0, _, _, rfl, VIn.rel 2 0 0 w, n1⟩
  have q0 : RsIn w [⟨⟨1, 0, 0, []⟩, []⟩] (some ⟨y, 0, none⟩) 1 := ⟨_, l4.sl (n := 1) (sz := 5) rfl m1, Elems.one r0 rfl⟩
  have q1 : RsIn w [⟨⟨1, 0, 0, []⟩, []⟩, ⟨⟨2, 0, 0, []⟩, [⟨1, [⟨⟨2, 0, 0, []⟩, ⟨3, 0, 0, []⟩, false⟩]⟩]⟩] (some ⟨x, 0, none⟩) 2 := ⟨rl1 g, l2.sl (n := 2) (sz := 5) rfl m2, (Elems.one r0 rfl).append (Elems.one r1 rfl)⟩
  have p1 : PkIs w [⟨⟨1, 0, 0, []⟩, []⟩, ⟨⟨2, 0, 0, []⟩, [⟨1, [⟨⟨2, 0, 0, []⟩, ⟨3, 0, 0, []⟩, false⟩]⟩]⟩] [.slice (some ⟨x, 0, none⟩) 2 2] := ⟨_, _, rfl, q1⟩
  have p2 : PkIs w [⟨⟨1, 0, 0, []⟩, []⟩] [.slice (some ⟨y, 0, none⟩) 1 1] := ⟨_, _, rfl, q0⟩
  exact ⟨_, l1.sl (n := 2) (sz := 1) rfl m2, (Elems.one p1 rfl).append (Elems.one p2 rfl)⟩
end Go.Proofs.YtgngehfgcogceaaGreatDoor

end
section
/- The closed example of the laws of the solver holds. -/
namespace Go.Proofs.YtgngehfgcogceaaGreatDoor
open Go.RowKit

theorem NsIn.lit {w : World} {d : Pl.Need} {g : Nat} {a : Option Addr} {c : Nat} (h : Bk w g [.int .i64 d.pk, .slice a d.rg.length c]) (hr : RIn w d.rg a c) : NsIn w [d] (some ⟨g, 0, none⟩) 1 :=
  ⟨_, ⟨rfl, Nat.le_refl _, by decide, .inr ⟨g, 0, rfl, h.lt, fun j u hu => by rw [Nat.zero_add]; exact h.c j hu⟩⟩, Elems.one ⟨a, c, rfl, hr⟩ rfl⟩
end Go.Proofs.YtgngehfgcogceaaGreatDoor

end
