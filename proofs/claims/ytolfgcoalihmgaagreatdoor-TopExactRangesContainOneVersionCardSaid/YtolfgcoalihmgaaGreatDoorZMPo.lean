/- Texts joined. -/
import Derived.WalkKit
import Derived.WalkSpells
import Derived.WalkLawsBesides
import Derived.Handy
import Derived.Lib.Hide
import Derived.Deep.QuietTactic
import Derived.BigQuiet
import Derived.Deep.AppendSrc
import Derived.Test.YtolfgcoalihmgaaGreatDoorProg
import Derived.Lib.Bytealg
namespace Go.Proofs.YtolfgcoalihmgaaGreatDoor
section
open Go.RowKit
namespace Pl
def M : Int := 2305843009213693951
def inB (n lo hi : Int) : Bool := decide (lo ≤ n) && decide (n ≤ hi)
def isKeyB (n : Int) : Bool := inB n 1 1000000000
def isDigestB (n : Int) : Bool := inB n 0 2305843009213693950
theorem inB_true {n lo hi : Int} : inB n lo hi = true ↔ lo ≤ n ∧ n ≤ hi := by simp [inB]
theorem inB_false {n lo hi : Int} : inB n lo hi = false ↔ ¬ (lo ≤ n ∧ n ≤ hi) := by rw [← inB_true]; simp
theorem lt_le {n : Int} : decide (n < 2305843009213693951) = decide (n ≤ 2305843009213693950) := by
 rw [decide_eq_decide]; omega
end Pl
end
section
open Go.RowKit
theorem nle {n : Nat} : n ≤ n := Nat.le_refl n
theorem Hd {p : Prop} (h : p) : Go.RowKit.Hid p := Lib.hid h
theorem brl (w : World) : Below w.heap.size w w := Below.refl _ _
theorem pts : (∀ (a : Act) (d : Tmp) (v : Value), a.put (some d) v = { a with tmps := a.tmps.setIfInBounds d v }) ∧ (∀ (a : Act) (v : Value), a.put none v = a) ∧ (∀ (l : List Value) (i : Nat) (x : Value), l.toArray.setIfInBounds i x = (l.set i x).toArray) ∧ (∀ (x y : Value) (l : List Value), (x :: l).set 0 y = y :: l) ∧ (∀ (x y : Value) (l : List Value) (n : Nat), (x :: l).set (n + 1) y = x :: l.set n y) ∧ ∀ (y : Value) (n : Nat), ([] : List Value).set n y = [] :=
 ⟨fun _ _ _ => rfl, fun _ _ => rfl, fun _ _ _ => by simp, fun _ _ _ => rfl, fun _ _ _ _ => rfl, fun _ _ => rfl⟩
structure Sl (w : World) (oa : Option Addr) (n cap sz : Nat) (cs : List Value) : Prop where
 hl : cs.length = n * sz
 hcap : n ≤ cap
 hmax : cap ≤ maxLen
 mem : cs = [] ∨ ∃ b off, oa = some ⟨b, off, none⟩ ∧ b < w.heap.size ∧ ∀ j u, cs[j]? = some u → w.cell? ⟨b, off + j, none⟩ = some u
theorem Sl.below {w w' : World} {oa : Option Addr} {n cap sz : Nat} {cs : List Value} (h : Sl w oa n cap sz cs) {B : Nat} (hb : Below B w w') (hB : w.heap.size ≤ B) : Sl w' oa n cap sz cs := by
 refine ⟨h.hl, h.hcap, h.hmax, ?_⟩
 rcases h.mem with h0 | ⟨b, off, rfl, hlt, hc⟩
 · exact .inl h0
 · exact .inr ⟨b, off, rfl, Nat.lt_of_lt_of_le hlt hb.size, fun j u hu => (hb.cell (p := ⟨b, off + j, none⟩) (Nat.lt_of_lt_of_le hlt hB)).trans (hc j u hu)⟩
theorem Sl.bl {w w' : World} {oa : Option Addr} {n cap sz : Nat} {cs : List Value} (h : Sl w oa n cap sz cs) (hb : Below w.heap.size w w') : Sl w' oa n cap sz cs := h.below hb nle
theorem Sl.al {w : World} {oa : Option Addr} {n cap sz : Nat} {cs : List Value} (h : Sl w oa n cap sz cs) (o : Obj) : Sl (w.alloc o) oa n cap sz cs := h.below ((Below.refl _ _).alloc nle o) nle
theorem Sl.nil (w : World) (sz : Nat) : Sl w none 0 0 sz [] := ⟨by simp, nle, Nat.zero_le _, .inl rfl⟩
def byteVals (l : List UInt8) : List Value := l.map (fun b => .int .u8 (b.toNat : Int))
def intVals (l : List Int) : List Value := l.map (Value.int .i64)
theorem intVals_length (l : List Int) : (intVals l).length = l.length := by simp [intVals]
theorem intVals_get (l : List Int) (k : Nat) (h : k < l.length) : (intVals l)[k]? = some (.int .i64 l[k]) := by simp [intVals, h]
structure ElemT (P : Program) (t e : TypeId) (size bytes : Nat) : Prop where
 ht : P.underlying t = some (.slice e)
 hi : ∃ i z, P.info? e = some i ∧ i.zero = some z ∧ i.size = size ∧ i.bytes = bytes ∧ z.cells.size = size
 hs : 0 < size
 hby : 0 < bytes
theorem ElemT.maxLen_of {P : Program} {t e : TypeId} {size bytes k : Nat} (T : ElemT P t e size bytes) (h : k * bytes ≤ 140737488355328) : k ≤ maxLen := by
 have := Nat.le_mul_of_pos_right k T.hby
 simp only [maxLen]
 omega
theorem ownsRow_below {w w' : World} {base : Nat} {e : TypeId} {size : Nat} {v : Value} {n : Nat} {xs : List Value} (h : w.ownsRow base e size v n xs) {B : Nat} (hb : Below B w w') (hB : w.heap.size ≤ B) : w'.ownsRow base e size v n xs := by
 refine ⟨h.1, ?_⟩
 rcases h.2 with hn | ⟨g, cap, cur, rfl, hbg, hgg, rest⟩
 · exact .inl hn
 · have hlt := (Array.getElem?_eq_some_iff.1 hgg).1
   exact .inr ⟨g, cap, cur, rfl, hbg, (hb.block g (Nat.lt_of_lt_of_le hlt hB)).trans hgg, rest⟩
theorem Sl.ofOwn {w : World} {base : Nat} {e : TypeId} {size : Nat} {v : Value} {n : Nat} {xs : List Value} (h : w.ownsRow base e size v n xs) : ∃ oa cap, v = .slice oa n cap ∧ Sl w oa n cap size xs := by
 rcases h.2 with ⟨rfl, rfl⟩ | ⟨g, cap, cur, rfl, hbg, hgg, h1, h2, h3, h4⟩
 · refine ⟨none, 0, rfl, ⟨h.1, nle, Nat.zero_le _, .inl (List.eq_nil_of_length_eq_zero (by simpa using h.1))⟩⟩
 · refine ⟨some ⟨g, 0, none⟩, cap, rfl, ⟨h.1, h1, h2, .inr ⟨g, 0, rfl, (Array.getElem?_eq_some_iff.1 hgg).1, fun j u hu => ?_⟩⟩⟩
   have := h.cells (g := g) rfl j u hu
   rwa [show (⟨g, 0, none⟩ : Addr).add j = ⟨g, 0 + j, none⟩ by unfold Addr.add; split <;> simp_all] at this
theorem addr_add (b off j : Nat) : (⟨b, off, none⟩ : Addr).add j = ⟨b, off + j, none⟩ := by unfold Addr.add; split <;> simp_all
theorem Src.ofSl {P : Program} {w : World} {oa : Option Addr} {n cap sz : Nat} {cs : List Value} {t e : TypeId} (hk : P.underlying t = some (.slice e)) (h : Sl w oa n cap sz cs) (hsz : 0 < sz) (h1 : ∀ u ∈ cs, u.oneCell' = true) : Src P sz t (.slice oa n cap) n cs w := by
 rcases h.mem with rfl | ⟨b, off, rfl, _, hc⟩
 · have hn : n = 0 := by
    have := h.hl
    rcases Nat.eq_zero_or_pos n with h0 | h0
    · exact h0
    · have := Nat.mul_pos h0 hsz; simp at *; omega
   subst hn
   cases oa with
   | none => exact Src.ofNil w hk cap
   | some ad => exact Src.ofSlice w hk ad 0 cap [] (by simp) (by simp) (by simp)
 · exact Src.ofSlice w hk ⟨b, off, none⟩ n cap cs h.hl (fun j u hu => by rw [addr_add]; exact hc j u hu) h1
theorem run_ap {P : Program} {w : World} {t tx ty e : TypeId} {size bytes : Nat} (T : ElemT P t e size bytes) {base : Nat} {v : Value} {n : Nat} {xs : List Value} (hown : w.ownsRow base e size v n xs)
 {x : Value} {m : Nat} {news : List Value} (hs : Src P size tx x m news w) (h63 : n + m ≤ maxLen) (hbytes : (n + m) * bytes ≤ 140737488355328) (hbase : base ≤ w.heap.size) :
 ∃ v' w', (Builtin.append_ #[t, tx] ty #[v, x]).run P w = .ok v' w' ∧ w'.ownsRow base e size v' (n + m) (xs ++ news) ∧ w.grownBy w' v.ownBlock ∧ (v'.ownBlock = v.ownBlock ∨ v'.ownBlock = some w.heap.size) := by
 obtain ⟨i, z, hi, hz, rfl, rfl, hzs⟩ := T.hi
 have hsmall : n + m ≤ 9223372036854775807 := by simp only [maxLen] at h63; omega
 have hlen : (xs ++ news).length = (n + m) * i.size := by rw [List.length_append, hown.1, hs.newsLen, Nat.add_mul]
 have grown : ∀ (old : Nat) (row : Option Nat),
  (w.drew.alloc (.cells ((xs ++ news).toArray ++ Builtin.zeroCells z.cells (grownCap w (n + m) old e - (n + m))) e)).ownsRow base e i.size
   (.slice (some ⟨w.heap.size, 0, none⟩) (n + m) (grownCap w (n + m) old e)) (n + m) (xs ++ news) ∧
  w.grownBy (w.drew.alloc (.cells ((xs ++ news).toArray ++ Builtin.zeroCells z.cells (grownCap w (n + m) old e - (n + m))) e)) row := by
  intro old row
  have hge := grownCap_ge w (n + m) old e
  have hcm : grownCap w (n + m) old e ≤ maxLen := grownCap_le_maxLen w (n + m) old e h63
  refine ⟨⟨hlen, .inr ⟨w.heap.size, _, _, rfl, hbase, heap_alloc_new w.drew _, hge, hcm, ?_, ?_⟩⟩, ⟨rfl, rfl, rfl, by simp, fun k hk _ => Below.heap_alloc w.drew _ k hk⟩⟩
  · simp only [Array.size_append, List.size_toArray, size_zeroCells, hzs, hlen, ← Nat.add_mul]
    congr 1
    omega
  · simp only [Array.toList_append]
    rw [← hlen]
    exact List.take_left
 rcases hown.2 with ⟨rfl, rfl⟩ | ⟨g, cap, cur, rfl, hbg, hg, hnc, hcm, hcs, htake⟩
 · have hx : xs = [] := List.eq_nil_of_length_eq_zero (by simpa using hown.1)
   subst hx
   by_cases hm : m = 0
   · subst hm
     have hn : news = [] := List.eq_nil_of_length_eq_zero (by simpa using hs.newsLen)
     subst hn
     refine ⟨.slice none 0 0, w, ?_, World.ownsRow_nil w base e i.size, ⟨rfl, rfl, rfl, nle, fun _ _ _ => rfl⟩, .inl rfl⟩
     rcases hs.kind with ⟨e', hk⟩ | hk <;>
      simp [Builtin.append_, run_underlying T.ht, run_underlying hk, sizeOf, typeInfo, hi, hs.len, hs.cells]
   · have hr := run_append_grow_src (P := P) w t tx ty e i z T.ht hi hz none 0 0 [] (by simp [Builtin.firstCells]) x m news hs (by omega) (by omega) (growslice_fits (by omega) hbytes)
     have hgr := grown 0 (Value.ownBlock (.slice none 0 0))
     exact ⟨_, _, hr, hgr.1, hgr.2, .inr rfl⟩
 · by_cases hroom : n + m ≤ cap
   · have hlt := (Array.getElem?_eq_some_iff.1 hg).1
     have hfit : n * i.size + news.length ≤ cur.size := by rw [hs.newsLen, hcs, ← Nat.add_mul]; exact Nat.mul_le_mul_right _ hroom
     have hst := run_storeCells_at P g (n * i.size) e news 0 cur w hg (by simpa using hfit) hs.one
     simp only [Nat.add_zero] at hst
     refine ⟨.slice (some ⟨g, 0, none⟩) (n + m) cap, w.setRow g (cur.toList.take (n * i.size) ++ news ++ cur.toList.drop (n * i.size + news.length)).toArray, ?_, ⟨hlen, .inr ⟨g, cap, _, rfl, hbg, setRow_heap w g cur _ e _ hg, hroom, hcm, ?_, ?_⟩⟩, ⟨rfl, rfl, rfl, by simp, fun k _ hk => setRow_other w g k _ (fun e => hk (by simp [Value.ownBlock, e]))⟩, .inl rfl⟩
     · rcases hs.kind with ⟨e', hk⟩ | hk <;>
        simp [Builtin.append_, run_underlying T.ht, run_underlying hk, sizeOf, typeInfo, hi, hs.len, hroom, hs.cells, Addr.add_lit, hst]
     · simp only [List.size_toArray, List.length_append, List.length_take, List.length_drop, Array.length_toList]
       omega
     · rw [htake, ← hlen]
       exact List.take_left
   · have holds : ∀ j u, xs[j]? = some u → w.cell? ((⟨g, 0, none⟩ : Addr).add j) = some u := hown.cells (g := g) rfl
     have hr := run_append_grow_src (P := P) w t tx ty e i z T.ht hi hz (some ⟨g, 0, none⟩) n cap xs (run_firstCells_some w.drew i.size n ⟨g, 0, none⟩ n cap xs hown.1 (by simpa using holds)) x m news hs (by omega) (by omega) (growslice_fits (by omega) hbytes)
     have hgr := grown cap (Value.ownBlock (.slice (some ⟨g, 0, none⟩) n cap))
     exact ⟨_, _, hr, hgr.1, hgr.2, .inr rfl⟩
theorem ap {P : Program} {w : World} {ops : Array Oper} {rest : List Oper} {o : Oper} {a : Act} {Q : Exit → Act → World → Prop} (hgd : o.guard = none) {s x : Operand} {t tx : TypeId}
 (ho : o.op = .call { callee := .builtin .append, args := #[s, x], argTypes := #[t, tx] })
 {e : TypeId} {size bytes : Nat} (T : ElemT P t e size bytes) {B : Nat} {w0 : World} (hB : Below B w0 w) {v : Value} {n : Nat} {xs : List Value} (hs : a.eval s = v) (hown : w.ownsRow B e size v n xs)
 {m : Nat} {news : List Value} (hsrc : Src P size tx (a.eval x) m news w) (hbytes : (n + m) * bytes ≤ 140737488355328) (hbase : B ≤ w.heap.size)
 (h : ∀ v' w', w'.ownsRow B e size v' (n + m) (xs ++ news) → Below B w0 w' → w.heap.size ≤ w'.heap.size → wpList P ops Q rest (a.put o.dst v') w') : wpList P ops Q (o :: rest) a w := by
 obtain ⟨v', w', hr, h2, h3, _⟩ := run_ap (ty := o.type) T hown hsrc (T.maxLen_of hbytes) hbytes hbase
 refine wpList_plain hgd fun K hK => ?_
 unfold Oper.wp execOp
 simp only [ho, resolve, invoke, builtin, Sem.run_bind, Sem.run_pure, Result.andThen_ok, List.map_toArray, List.map_cons, List.map_nil, hs, hr]
 exact hK _ _ (h v' w' h2 (hB.grown h3 hbase fun k hk => (hown.lt k hk).1) h3.size)
theorem apx {P : Program} {w : World} {ops : Array Oper} {rest : List Oper} {o : Oper} {a : Act} {Q : Exit → Act → World → Prop} (hgd : o.guard = none) {s x : Operand} {t tx : TypeId}
 (ho : o.op = .call { callee := .builtin .append, args := #[s, x], argTypes := #[t, tx] })
 {e : TypeId} {size bytes : Nat} (T : ElemT P t e size bytes) {B : Nat} {v : Value} {n : Nat} {xs : List Value} (hs : a.eval s = v) (hown : w.ownsRow B e size v n xs)
 {m : Nat} {news : List Value} (hsrc : Src P size tx (a.eval x) m news w) (hbytes : (n + m) * bytes ≤ 140737488355328) (hbase : B ≤ w.heap.size)
 (h : ∀ v' w', w'.ownsRow B e size v' (n + m) (xs ++ news) → w.grownBy w' v.ownBlock → (v'.ownBlock = v.ownBlock ∨ v'.ownBlock = some w.heap.size) → wpList P ops Q rest (a.put o.dst v') w') : wpList P ops Q (o :: rest) a w := by
 obtain ⟨v', w', hr, h2, h3, h4⟩ := run_ap (ty := o.type) T hown hsrc (T.maxLen_of hbytes) hbytes hbase
 refine wpList_plain hgd fun K hK => ?_
 unfold Oper.wp execOp
 simp only [ho, resolve, invoke, builtin, Sem.run_bind, Sem.run_pure, Result.andThen_ok, List.map_toArray, List.map_cons, List.map_nil, hs, hr]
 exact hK _ _ (h v' w' h2 h3 h4)
theorem ap1 {P : Program} {w : World} {ops : Array Oper} {rest : List Oper} {o : Oper} {a : Act} {Q : Exit → Act → World → Prop} (hgd : o.guard = none) {s x : Operand} {t : TypeId}
 (ho : o.op = .call { callee := .builtin .append, args := #[s, x], argTypes := #[t, t] })
 {e e' : TypeId} {size bytes : Nat} (T : ElemT P t e size bytes) {B : Nat} {w0 : World} (hB : Below B w0 w) {v : Value} {n : Nat} {xs : List Value} (hs : a.eval s = v) (hown : w.ownsRow B e size v n xs)
 {m c : Nat} {C : List Value} (hx : a.eval x = .slice (some ⟨w.heap.size, 0, none⟩) m c) (hl : C.length = m * size) (h1 : C.all (fun u => u.oneCell') = true) (hbytes : (n + m) * bytes ≤ 140737488355328) (hbase : B ≤ w.heap.size)
 (h : ∀ v' w', w'.ownsRow B e size v' (n + m) (xs ++ C) → Below B w0 w' → w.heap.size < w'.heap.size → wpList P ops Q rest (a.put o.dst v') w') : wpList P ops Q (o :: rest) a (w.alloc (.cells C.toArray e')) := by
 refine ap hgd ho T (hB.alloc hbase _) hs (hown.alloc _) (m := m) (news := C) ?_ hbytes (by simp; omega) fun v' w' h2 h3 h4 => h v' w' h2 h3 (by simp at h4; omega)
 rw [hx]
 exact Src.ofSlice _ T.ht _ _ _ _ hl (fun j u hu => by rw [addr_add]; simp [hu]) (List.all_eq_true.1 h1)
theorem grownBy_trans_alloc {w w' : World} {o : Obj} {row : Option Nat} (h : (w.alloc o).grownBy w' row) : w.grownBy w' row :=
 ⟨h.os, h.tape, h.output, Nat.le_trans (by simp) h.size, fun k hk hr => (h.block k (by simp; omega) hr).trans (Below.heap_alloc _ _ _ hk)⟩
structure Box2 (w : World) (r : Nat) (x y : Value) : Prop where
 c0 : w.cell? ⟨r, 0, none⟩ = some x
 c1 : w.cell? ⟨r, 1, none⟩ = some y
 f0 : w.frozen? ⟨r, 0, none⟩ = false
 f1 : w.frozen? ⟨r, 1, none⟩ = false
 lt : r < w.heap.size
theorem Box2.new (w : World) (x y : Value) (t : TypeId) : Box2 (w.alloc (.cells #[x, y] t)) w.heap.size x y :=
 ⟨by simp, by simp, World.frozen?_alloc_at _ _ _ _ rfl, World.frozen?_alloc_at _ _ _ _ rfl, by simp⟩
theorem Box2.below {w w' : World} {r : Nat} {x y : Value} (h : Box2 w r x y) {B : Nat} (hb : Below B w w') (hr : r < B) : Box2 w' r x y :=
 ⟨(hb.cell (p := ⟨r, 0, none⟩) hr).trans h.c0, (hb.cell (p := ⟨r, 1, none⟩) hr).trans h.c1, (hb.frozen (p := ⟨r, 0, none⟩) hr).trans h.f0, (hb.frozen (p := ⟨r, 1, none⟩) hr).trans h.f1, Nat.lt_of_lt_of_le h.lt hb.size⟩
theorem Box2.bw {w w' : World} {r B : Nat} {x y : Value} (h : Box2 w r x y) (hb : Below B w w') (hr : r < B := by go_size) : Box2 w' r x y := h.below hb hr
theorem Box2.alloc {w : World} {r : Nat} {x y : Value} (h : Box2 w r x y) (o : Obj) : Box2 (w.alloc o) r x y :=
 h.below (B := w.heap.size) ((Below.refl _ _).alloc nle _) h.lt
theorem bcall {B B' : Nat} {w W w1 : World} (h : Below B w W) (hb : Below B' W w1) (hB : B ≤ B') : Below B w w1 := h.trans (hb.mono hB)
theorem bcl {B D : Nat} {w W w1 : World} (hb : Below D W w1) (h : Below B w W := by go_grown) (hB : B ≤ D := by go_size) : Below B w w1 := bcall h hb hB
theorem bcm {D : Nat} (w : World) {W w1 : World} (hb : Below D W w1) (h : Below w.heap.size w W := by go_grown) (hB : w.heap.size ≤ D := by go_size) : Below w.heap.size w w1 := bcall h hb hB
theorem qle {B n : Nat} {W w1 : World} (hb : Below B W w1) (h : n ≤ W.heap.size := by go_size) : n ≤ w1.heap.size := Nat.le_trans h hb.size
theorem Sl.own {w : World} {base : Nat} {e : TypeId} {size n cap : Nat} {oa : Option Addr} {xs : List Value} (h : w.ownsRow base e size (.slice oa n cap) n xs) : Sl w oa n cap size xs := by
 obtain ⟨oa', cap', hv, hs⟩ := Sl.ofOwn h
 injection hv with e1 e2 e3
 subst e1; subst e3
 exact hs
theorem own_slice {w : World} {base : Nat} {e : TypeId} {size n : Nat} {v : Value} {xs : List Value} (h : w.ownsRow base e size v n xs) : ∃ oa cap, v = .slice oa n cap :=
 let ⟨oa, cap, hv, _⟩ := Sl.ofOwn h
 ⟨oa, cap, hv⟩
theorem take_snoc {α : Type} {l : List α} {k : Nat} {x : α} (h : l[k]? = some x) : l.take k ++ [x] = l.take (k + 1) := by
 obtain ⟨hk, rfl⟩ := List.getElem?_eq_some_iff.1 h
 rw [List.take_succ_eq_append_getElem hk]
def UpTo {α : Type} (p : α → Bool) (xs : List α) (k : Nat) : Prop := ∀ j (h : j < xs.length), j < k → p xs[j] = true
theorem UpTo.zero {α : Type} (p : α → Bool) (xs : List α) : UpTo p xs 0 := fun _ _ h => absurd h (by omega)
theorem UpTo.succ {α : Type} {p : α → Bool} {xs : List α} {k : Nat} (h : UpTo p xs k) (hk : k < xs.length) (hp : p xs[k] = true) : UpTo p xs (k + 1) := fun j hj h1 => by
 by_cases e : j = k
 · subst e; exact hp
 · exact h j hj (by omega)
theorem UpTo.bad {α : Type} {p : α → Bool} {xs : List α} {k : Nat} (h : UpTo p xs k) (hk : k < xs.length) (hp : p xs[k] = false) : xs.findIdx? (fun x => !p x) = some k := by
 rw [List.findIdx?_eq_some_iff_getElem]
 exact ⟨hk, by simp [hp], fun j hj => by simp [h j (by omega) hj]⟩
theorem UpTo.all {α : Type} {p : α → Bool} {xs : List α} (h : UpTo p xs xs.length) : xs.findIdx? (fun x => !p x) = none := by
 rw [List.findIdx?_eq_none_iff]
 intro x hx
 obtain ⟨j, hj, rfl⟩ := List.mem_iff_getElem.1 hx
 simp [h j hj hj]
end
section
open Go.RowKit
theorem quiet_eq {P : Program} {f : FuncId} {args : Array Value} {w : World} {n : Nat} {v : Value}
 (h : Calls P f args (w.drewN n) fun e w' => e = .returned v ∧ w.drewN n = w') : Calls P f args (w.drewN n) fun e w'' => e = .returned v ∧ ∃ m, w'' = w.drewN m :=
 h.mono fun _ _ ⟨he, hm⟩ => ⟨he, n, hm.symm⟩
theorem ret_int {k : IntKind} {a b : Int} (h : a = b) : Ending.returned (.int k a) = .returned (.int k b) := by rw [h]
theorem ret_bool {a b : Bool} (h : a = b) : Ending.returned (.bool a) = .returned (.bool b) := by rw [h]
theorem rin_any (n lo hi : Int) (w : World) :
 Calls Tryz.prog 56 #[.int .i64 n, .int .i64 lo, .int .i64 hi] w fun e w' => e = .returned (.bool (Pl.inB n lo hi)) ∧ w = w' := by
 go_enter Tryz.func56, Tryz.ntmps56
 go_wp2
 all_goals (go_ret; exact ⟨ret_bool (by unfold Pl.inB; simp; omega), rfl⟩)
theorem rfault_any (a b : Int) (w : World) :
 Calls Tryz.prog 57 #[.int .i64 a, .int .i64 b] w fun e w' => e = .returned (.agg #[.int .i64 a, .int .i64 b]) ∧ Below w.heap.size w w' := by
 go_enter Tryz.func57, Tryz.ntmps57
 go_wp2
 go_returns
 refine ⟨rfl, ?_⟩
 go_grown
end
section
open Go.RowKit
namespace Pl
def b8 (x : Int) : UInt8 := UInt8.ofNat (x % 256).toNat
def bigS (n : Int) : List UInt8 := [b8 (n / 72057594037927936), b8 (n / 281474976710656), b8 (n / 1099511627776), b8 (n / 4294967296), b8 (n / 16777216), b8 (n / 65536), b8 (n / 256), b8 n]
end Pl
namespace Pl
def digF (hi : Int) (xs : List Int) : Int × Int := match xs.findIdx? (fun x => !isDigestB x) with
 | some i => (3, hi + (i : Int))
 | none => (0, 0)
def msgF (xs : List Int) : Int × Int := if xs.length ≤ 64 then digF 0 xs else (2, -1)
def msgS (xs : List Int) : List UInt8 := xs.flatMap bigS
def msgV (xs : List Int) : List UInt8 := if (msgF xs).1 = 0 then msgS xs else []
end Pl
end
section
open Go.RowKit
namespace Pl
theorem msgV_ok {xs : List Int} (h : msgF xs = (0, 0)) : msgV xs = msgS xs := by simp [msgV, h]
theorem msgV_bad {xs : List Int} (h : (msgF xs).1 ≠ 0) : msgV xs = [] := by simp [msgV, h]
end Pl
def RetMsg (xs : List Int) (w : World) (e : Ending) (w' : World) : Prop :=
 ∃ oa cap, e = .returned (.tuple #[.slice oa (Pl.msgV xs).length cap, .agg #[.int .i64 (Pl.msgF xs).1, .int .i64 (Pl.msgF xs).2]]) ∧
  w'.ownsRow w.heap.size 5 1 (.slice oa (Pl.msgV xs).length cap) (Pl.msgV xs).length (byteVals (Pl.msgV xs)) ∧ Below w.heap.size w w'
theorem RetMsg.bad {xs : List Int} {w w' : World} {c i : Int} (h : Pl.msgF xs = (c, i)) (hc : c ≠ 0) (hb : Below w.heap.size w w') : RetMsg xs w (.returned (.tuple #[.slice none 0 0, .agg #[.int .i64 c, .int .i64 i]])) w' := by
 have hv : Pl.msgV xs = [] := Pl.msgV_bad (by rw [h]; exact hc)
 refine ⟨none, 0, ?_, ?_, hb⟩
 · rw [hv, h]; rfl
 · rw [hv]; exact World.ownsRow_nil _ _ _ _
theorem RetMsg.ok {xs : List Int} {w w' : World} {v : Value} (h : Pl.msgF xs = (0, 0)) {B n : Nat} (hn : n = (Pl.msgS xs).length) (hown : w'.ownsRow B 5 1 v n (byteVals (Pl.msgS xs))) (hB : w.heap.size ≤ B) (hb : Below w.heap.size w w') : RetMsg xs w (.returned (.tuple #[v, .agg #[.int .i64 0, .int .i64 0]])) w' := by
 obtain ⟨oa, cap, rfl⟩ := own_slice hown
 subst hn
 refine ⟨oa, cap, ?_, ?_, hb⟩
 · rw [Pl.msgV_ok h, h]
 · rw [Pl.msgV_ok h]
   refine ⟨hown.1, ?_⟩
   rcases hown.2 with h0 | ⟨g, c, cur, h1, h2, h3⟩
   · exact .inl h0
   · exact .inr ⟨g, c, cur, h1, by omega, h3⟩
end
section
open Go.RowKit
theorem lin_any (n lo hi : Int) (w : World) :
 Calls Tryz.prog 48 #[.int .i64 n, .int .i64 lo, .int .i64 hi] w fun e w' => e = .returned (.bool (Pl.inB n lo hi)) ∧ w = w' := by
 go_enter Tryz.func48, Tryz.ntmps48
 go_wp2
 all_goals (go_ret; exact ⟨ret_bool (by unfold Pl.inB; simp; omega), rfl⟩)
end
section
namespace Pl
structure TO {α : Type} (c : α → α → Int) (p : α → Prop) : Prop where
 rng : ∀ a b, c a b = -1 ∨ c a b = 0 ∨ c a b = 1
 anti : ∀ a b, p a → p b → c b a = - c a b
 eq : ∀ a b, p a → p b → (c a b = 0 ↔ a = b)
 tr : ∀ a b d, p a → p b → p d → c a b ≤ 0 → c b d ≤ 0 → c a d ≤ 0
theorem TO.lt_le {α : Type} {c : α → α → Int} {p : α → Prop} (T : TO c p) {a b d : α} (ha : p a) (hb : p b) (hd : p d) (h1 : c a b < 0) (h2 : c b d ≤ 0) : c a d < 0 := by
 have h3 := T.tr a b d ha hb hd (by omega) h2
 by_cases h0 : c a d = 0
 · have e := (T.eq a d ha hd).1 h0
   subst e
   have := T.anti a b ha hb
   omega
 · omega
theorem TO.le_lt {α : Type} {c : α → α → Int} {p : α → Prop} (T : TO c p) {a b d : α} (ha : p a) (hb : p b) (hd : p d) (h1 : c a b ≤ 0) (h2 : c b d < 0) : c a d < 0 := by
 have h3 := T.tr a b d ha hb hd h1 (by omega)
 by_cases h0 : c a d = 0
 · have e := (T.eq a d ha hd).1 h0
   subst e
   have := T.anti a b ha hb
   omega
 · omega
theorem TO.mono {α : Type} {c : α → α → Int} {p q : α → Prop} (T : TO c p) (h : ∀ a, q a → p a) : TO c q :=
 ⟨T.rng, fun a b ha hb => T.anti a b (h a ha) (h b hb), fun a b ha hb => T.eq a b (h a ha) (h b hb), fun a b d ha hb hd => T.tr a b d (h a ha) (h b hb) (h d hd)⟩
theorem TO.pull {α β : Type} {c : β → β → Int} {p : β → Prop} (T : TO c p) (f : α → β) (q : α → Prop) (h : ∀ a, q a → p (f a)) (inj : ∀ a b, q a → q b → f a = f b → a = b) : TO (fun a b => c (f a) (f b)) q :=
 ⟨fun a b => T.rng _ _, fun a b ha hb => T.anti _ _ (h a ha) (h b hb), fun a b ha hb => ⟨fun e => inj a b ha hb ((T.eq _ _ (h a ha) (h b hb)).1 e), fun e => by subst e; exact (T.eq _ _ (h _ ha) (h _ ha)).2 rfl⟩, fun a b d ha hb hd => T.tr _ _ _ (h a ha) (h b hb) (h d hd)⟩
def sgn (x y : Int) : Int := if x < y then -1 else if y < x then 1 else 0
theorem sgn_TO : TO sgn (fun _ => True) := by
 refine ⟨fun a b => ?_, fun a b _ _ => ?_, fun a b _ _ => ?_, fun a b d _ _ _ => ?_⟩ <;> unfold sgn <;> repeat' split <;> omega
def lexP {α β : Type} (c : α → α → Int) (e : β → β → Int) (a b : α × β) : Int := if c a.1 b.1 = 0 then e a.2 b.2 else c a.1 b.1
theorem lexP_TO {α β : Type} {c : α → α → Int} {e : β → β → Int} {p : α → Prop} {q : β → Prop} (T : TO c p) (U : TO e q) : TO (lexP c e) (fun a => p a.1 ∧ q a.2) := by
 refine ⟨fun a b => ?_, fun a b ha hb => ?_, fun a b ha hb => ?_, fun a b d ha hb hd h1 h2 => ?_⟩
 · unfold lexP; split
   · exact U.rng _ _
   · exact T.rng _ _
 · unfold lexP
   have h1 := T.anti _ _ ha.1 hb.1
   have h2 := U.anti _ _ ha.2 hb.2
   repeat' split <;> omega
 · unfold lexP
   have h1 := T.eq _ _ ha.1 hb.1
   have h2 := U.eq _ _ ha.2 hb.2
   split
   · rename_i h; rw [h2]
     exact ⟨fun h3 => Prod.ext (h1.1 h) h3, fun h3 => by rw [h3]⟩
   · rename_i h
     exact ⟨fun h3 => absurd h3 h, fun h3 => absurd (h1.2 (by rw [h3])) h⟩
 · unfold lexP at h1 h2 ⊢
   by_cases e1 : c a.1 b.1 = 0
   · rw [if_pos e1] at h1
     have e1' := (T.eq _ _ ha.1 hb.1).1 e1
     rw [← e1'] at h2
     by_cases e2 : c a.1 d.1 = 0
     · rw [if_pos e2] at h2 ⊢
       exact U.tr _ _ _ ha.2 hb.2 hd.2 h1 h2
     · rw [if_neg e2] at h2 ⊢
       exact h2
   · rw [if_neg e1] at h1
     have h3 : c b.1 d.1 ≤ 0 := by
      by_cases e2 : c b.1 d.1 = 0
      · omega
      · rw [if_neg e2] at h2; exact h2
     have h4 := T.lt_le ha.1 hb.1 hd.1 (show c a.1 b.1 < 0 by omega) h3
     rw [if_neg (by omega)]
     omega
def lexL {α : Type} (c : α → α → Int) : List α → List α → Int
 | [], [] => 0
 | [], _ :: _ => -1
 | _ :: _, [] => 1
 | a :: a2, b :: b2 => if c a b = 0 then lexL c a2 b2 else c a b
theorem lexL_TO {α : Type} {c : α → α → Int} {p : α → Prop} (T : TO c p) : TO (lexL c) (fun l => ∀ x ∈ l, p x) := by
 refine ⟨?_, ?_, ?_, ?_⟩
 · intro a
   induction a with
   | nil => intro b; cases b <;> simp [lexL]
   | cons x a ih =>
     intro b
     cases b with
     | nil => simp [lexL]
     | cons y b =>
       rw [lexL]; split
       · exact ih b
       · exact T.rng _ _
 · intro a
   induction a with
   | nil => intro b _ _; cases b <;> simp [lexL]
   | cons x a ih =>
     intro b ha hb
     cases b with
     | nil => simp [lexL]
     | cons y b =>
       have h1 := T.anti x y (ha x (by simp)) (hb y (by simp))
       have h2 := ih b (fun z hz => ha z (by simp [hz])) (fun z hz => hb z (by simp [hz]))
       rw [lexL, lexL]
       repeat' split <;> omega
 · intro a
   induction a with
   | nil => intro b _ _; cases b <;> simp [lexL]
   | cons x a ih =>
     intro b ha hb
     cases b with
     | nil => simp [lexL]
     | cons y b =>
       have h1 := T.eq x y (ha x (by simp)) (hb y (by simp))
       have h2 := ih b (fun z hz => ha z (by simp [hz])) (fun z hz => hb z (by simp [hz]))
       rw [lexL]
       split
       · rename_i h; rw [h2, h1.1 h]; simp
       · rename_i h
         exact ⟨fun h3 => absurd h3 h, fun h3 => by cases h3; exact absurd (h1.2 rfl) h⟩
 · intro a
   induction a with
   | nil => intro b d _ _ _ h1 h2; cases d <;> simp [lexL]
   | cons x a ih =>
     intro b d ha hb hd h1 h2
     cases b with
     | nil => simp [lexL] at h1
     | cons y b =>
       cases d with
       | nil => simp [lexL] at h2
       | cons z d =>
         have px := ha x (by simp)
         have py := hb y (by simp)
         have pz := hd z (by simp)
         rw [lexL] at h1 h2 ⊢
         by_cases e1 : c x y = 0
         · rw [if_pos e1] at h1
           have e1' := (T.eq _ _ px py).1 e1
           subst e1'
           by_cases e2 : c x z = 0
           · rw [if_pos e2] at h2 ⊢
             exact ih b d (fun u hu => ha u (by simp [hu])) (fun u hu => hb u (by simp [hu])) (fun u hu => hd u (by simp [hu])) h1 h2
           · rw [if_neg e2] at h2 ⊢
             exact h2
         · rw [if_neg e1] at h1
           have h3 : c y z ≤ 0 := by
            by_cases e2 : c y z = 0
            · omega
            · rw [if_neg e2] at h2; exact h2
           have h4 := T.lt_le px py pz (show c x y < 0 by omega) h3
           rw [if_neg (by omega)]
           omega
theorem byte_TO : TO (fun a b : UInt8 => sgn a.toNat b.toNat) (fun _ => True) :=
 sgn_TO.pull (fun a : UInt8 => (a.toNat : Int)) _ (fun _ h => h) (fun a b _ _ h => UInt8.toNat_inj.1 (by omega))
theorem compareBytes_lex : ∀ a b : List UInt8, Lib.compareBytes a b = lexL (fun a b : UInt8 => sgn a.toNat b.toNat) a b
 | [], [] => rfl
 | [], _ :: _ => rfl
 | _ :: _, [] => rfl
 | a :: a2, b :: b2 => by
   rw [Lib.compareBytes, lexL, compareBytes_lex a2 b2]
   simp only [sgn, UInt8.lt_iff_toNat_lt]
   repeat' split <;> omega
theorem compareBytes_TO : TO Lib.compareBytes (fun _ => True) := by
 have h := (lexL_TO byte_TO).mono (q := fun _ => True) (fun _ _ _ _ => trivial)
 rwa [show (lexL fun a b : UInt8 => sgn a.toNat b.toNat) = Lib.compareBytes from funext fun a => funext fun b => (compareBytes_lex a b).symm] at h
end Pl
end
section
open Go.RowKit
namespace Pl
structure Keys (xs : List Int) : Prop where
 len : xs.length ≤ 12
 key : ∀ i, i < xs.length → isKeyB (xs.getD i 0) = true
 inc : ∀ i, 0 < i → i < xs.length → xs.getD (i - 1) 0 < xs.getD i 0
theorem Keys.mem {xs : List Int} (h : Keys xs) {x : Int} (hx : x ∈ xs) : isKeyB x = true := by
 obtain ⟨i, hi, rfl⟩ := List.mem_iff_getElem.1 hx
 have := h.key i hi
 rwa [List.getD_eq_getElem?_getD, List.getElem?_eq_getElem hi] at this
end Pl
end
section
namespace Pl
def digB (c : UInt8) : Bool := decide (48 ≤ c.toNat) && decide (c.toNat ≤ 57)
def idcB (c : UInt8) : Bool := digB c || (decide (97 ≤ c.toNat) && decide (c.toNat ≤ 122)) || (decide (65 ≤ c.toNat) && decide (c.toNat ≤ 90)) || c == 45
def digsB (s : List UInt8) : Bool := s.all digB
def identB (s : List UInt8) : Bool := decide (1 ≤ s.length) && decide (s.length ≤ 8) && s.all idcB && !(digsB s && decide (1 < s.length) && s.head? == some 48)
def valL (s : List UInt8) : Int := s.foldl (fun n c => 10 * n + ((c.toNat : Int) - 48)) 0
def idKey (s : List UInt8) : Int × Int × List UInt8 := (if digsB s then 0 else 1, if digsB s then (s.length : Int) else 0, s)
def idCmp (a b : List UInt8) : Int := lexP sgn (lexP sgn Lib.compareBytes) (idKey a) (idKey b)
theorem idCmp_TO : TO idCmp (fun _ => True) :=
 (lexP_TO sgn_TO (lexP_TO sgn_TO compareBytes_TO)).pull idKey _ (fun _ _ => ⟨trivial, trivial, trivial⟩) (fun a b _ _ h => by
  have h := congrArg (fun x => x.2.2) h
  exact h)
theorem fold_val (s : List UInt8) (n : Int) : s.foldl (fun n c => 10 * n + ((c.toNat : Int) - 48)) n = n * 10 ^ s.length + valL s := by
 unfold valL
 induction s generalizing n with
 | nil => simp
 | cons c s ih =>
   rw [List.foldl_cons, List.foldl_cons, ih, ih (10 * 0 + _), List.length_cons, Int.pow_succ]
   simp only [Int.mul_zero, Int.zero_add]
   rw [Int.add_mul, ← Int.mul_assoc, Int.add_assoc]
   congr 1
   rw [Int.mul_comm 10 n, Int.mul_assoc, Int.mul_assoc, Int.mul_comm 10]
theorem valL_cons (c : UInt8) (s : List UInt8) : valL (c :: s) = ((c.toNat : Int) - 48) * 10 ^ s.length + valL s := by
 show (c :: s).foldl _ 0 = _
 rw [List.foldl_cons, fold_val]
 simp
theorem digB_iff {c : UInt8} : digB c = true ↔ 48 ≤ c.toNat ∧ c.toNat ≤ 57 := by simp [digB]
theorem valL_bounds : ∀ {s : List UInt8}, digsB s = true → 0 ≤ valL s ∧ valL s < 10 ^ s.length
 | [], _ => by simp [valL]
 | c :: s, h => by
   simp only [digsB, List.all_cons, Bool.and_eq_true] at h
   have h1 := digB_iff.1 h.1
   have h2 := valL_bounds (s := s) h.2
   rw [valL_cons, List.length_cons, Int.pow_succ]
   have h3 : (0 : Int) < 10 ^ s.length := Int.pow_pos (by omega)
   have h4 : 0 ≤ ((c.toNat : Int) - 48) * 10 ^ s.length := Int.mul_nonneg (by omega) (by omega)
   have h5 : ((c.toNat : Int) - 48) * 10 ^ s.length ≤ 9 * 10 ^ s.length := Int.mul_le_mul_of_nonneg_right (by omega) (by omega)
   omega
theorem val_same : ∀ {a b : List UInt8}, digsB a = true → digsB b = true → a.length = b.length → sgn (valL a) (valL b) = Lib.compareBytes a b
 | [], [], _, _, _ => rfl
 | [], _ :: _, _, _, h => by simp at h
 | _ :: _, [], _, _, h => by simp at h
 | x :: a, y :: b, ha, hb, hl => by
   simp only [digsB, List.all_cons, Bool.and_eq_true] at ha hb
   have hx := digB_iff.1 ha.1
   have hy := digB_iff.1 hb.1
   have hl : a.length = b.length := by simpa using hl
   have ih := val_same (a := a) (b := b) ha.2 hb.2 hl
   have ba := valL_bounds (s := a) ha.2
   have bb := valL_bounds (s := b) hb.2
   rw [valL_cons, valL_cons, hl, Lib.compareBytes, ← ih]
   rw [hl] at ba
   generalize hA : valL a = A at *
   generalize hB : valL b = B at *
   generalize hE : (10 : Int) ^ b.length = E at *
   simp only [UInt8.lt_iff_toNat_lt]
   by_cases h1 : x.toNat < y.toNat
   · rw [if_pos h1]
     have h5 : ((x.toNat : Int) - 48 + 1) * E ≤ ((y.toNat : Int) - 48) * E := Int.mul_le_mul_of_nonneg_right (by omega) (by omega)
     rw [Int.add_mul] at h5
     unfold sgn
     rw [if_pos (by omega)]
   · rw [if_neg h1]
     by_cases h2 : y.toNat < x.toNat
     · rw [if_pos h2]
       have h5 : ((y.toNat : Int) - 48 + 1) * E ≤ ((x.toNat : Int) - 48) * E := Int.mul_le_mul_of_nonneg_right (by omega) (by omega)
       rw [Int.add_mul] at h5
       unfold sgn
       rw [if_neg (by omega), if_pos (by omega)]
     · rw [if_neg h2, show (x.toNat : Int) = (y.toNat : Int) by omega]
       unfold sgn
       repeat' split <;> omega
theorem val_longer {a b : List UInt8} (ha : digsB a = true) (hb : digsB b = true) (hb0 : b.head? ≠ some 48) (hl : a.length < b.length) : valL a < valL b := by
 cases b with
 | nil => simp at hl
 | cons y b =>
   simp only [digsB, List.all_cons, Bool.and_eq_true] at hb
   have hy := digB_iff.1 hb.1
   have hy0 : y.toNat ≠ 48 := fun h => hb0 (by simp [← UInt8.toNat_inj, h])
   have ba := valL_bounds (s := a) ha
   have bb := valL_bounds (s := b) hb.2
   rw [valL_cons]
   have h1 : (10 : Int) ^ a.length ≤ 10 ^ b.length := by
    have := Nat.pow_le_pow_right (n := 10) (by omega) (show a.length ≤ b.length by simp at hl; omega)
    exact_mod_cast this
   have h5 : 1 * (10 : Int) ^ b.length ≤ ((y.toNat : Int) - 48) * 10 ^ b.length := Int.mul_le_mul_of_nonneg_right (by omega) (by omega)
   omega
def idRef (a b : List UInt8) : Int :=
 if digsB a && digsB b then sgn (valL a) (valL b) else if digsB a then -1 else if digsB b then 1 else Lib.compareBytes a b
theorem identB_iff {s : List UInt8} : identB s = true ↔ 1 ≤ s.length ∧ s.length ≤ 8 ∧ s.all idcB = true ∧ (digsB s = true → 1 < s.length → s.head? ≠ some 48) := by
 unfold identB
 simp only [Bool.and_eq_true, decide_eq_true_eq, Bool.not_eq_true', Bool.and_eq_false_iff, decide_eq_false_iff_not, beq_eq_false_iff_ne, and_assoc]
 refine and_congr_right fun _ => and_congr_right fun _ => and_congr_right fun _ => ⟨fun h h1 h2 => ?_, fun h => ?_⟩
 · rcases h with (h | h) | h
   · rw [h1] at h; cases h
   · exact absurd h2 h
   · exact h
 · cases h1 : digsB s
   · exact .inl (.inl rfl)
   · by_cases h2 : 1 < s.length
     · exact .inr (h h1 h2)
     · exact .inl (.inr h2)
theorem idRef_eq {a b : List UInt8} (ha : identB a = true) (hb : identB b = true) : idRef a b = idCmp a b := by
 obtain ⟨a1, -, -, a2⟩ := identB_iff.1 ha
 obtain ⟨b1, -, -, b2⟩ := identB_iff.1 hb
 unfold idRef idCmp lexP idKey
 cases hA : digsB a <;> cases hB : digsB b
 · simp [sgn]
 · simp [sgn]
 · simp [sgn]
 · simp only [Bool.and_self, if_true]
   rw [if_pos (by simp [sgn])]
   rcases Nat.lt_trichotomy a.length b.length with h | h | h
   · have hv := val_longer hA hB (b2 hB (by omega)) h
     have e : sgn (a.length : Int) (b.length : Int) = -1 := by unfold sgn; rw [if_pos (by omega)]
     rw [e, if_neg (by decide)]
     unfold sgn; rw [if_pos hv]
   · rw [val_same hA hB h, h, if_pos (by simp [sgn])]
   · have hv := val_longer hB hA (a2 hA (by omega)) h
     have e : sgn (a.length : Int) (b.length : Int) = 1 := by unfold sgn; rw [if_neg (by omega), if_pos (by omega)]
     rw [e, if_neg (by decide)]
     unfold sgn; rw [if_neg (by omega), if_pos hv]
end Pl
end
end Go.Proofs.YtolfgcoalihmgaaGreatDoor
