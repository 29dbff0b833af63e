/- Texts joined: Pa Ka Wa Wb Wd We Pn Pb Po. -/
import Derived.WalkKit
import Derived.WalkSpells
import Derived.WalkLawsBesides
import Derived.Handy
import Derived.Lib.Hide
import Derived.Deep.QuietTactic
import Derived.BigQuiet
import Derived.Deep.AppendSrc
import Derived.Test.YtgngehfgcogceaaGreatDoorProg
import Derived.Lib.Bytealg
section
/- Plain facts on the digest's arithmetic: no program in sight. -/
namespace Go.Proofs.YtgngehfgcogceaaGreatDoor
open Go.RowKit
theorem and_one (E : Int) (h0 : 0 ≤ E) (h1 : E ≤ 9223372036854775807) : bits BinOp.and IntKind.i64 E 1 = E % 2 := by
  obtain ⟨n, rfl⟩ := Int.eq_ofNat_of_zero_le h0
  have hx : n &&& 1 < 2 := by rw [Nat.and_one_is_mod]; omega
  have h1 : (BitVec.ofInt 64 (n : Int)).toNat = n := by
    rw [BitVec.ofInt_natCast, BitVec.toNat_ofNat]; exact Nat.mod_eq_of_lt (by omega)
  have h2 : (BitVec.ofInt 64 (1 : Int)).toNat = 1 := by decide
  show IntKind.i64.wrap ((BitVec.ofInt 64 (n : Int) &&& BitVec.ofInt 64 (1 : Int)).toNat : Int) = _
  rw [BitVec.toNat_and, h1, h2, IntKind.wrap_i64, Nat.and_one_is_mod]
  omega
namespace Pl

/-- The modulus of digests. -/
def M : Int := 2305843009213693951
theorem M_eq : M = 2305843009213693951 := rfl

theorem emm (x k : Int) : (x % M * k) % M = (x * k) % M := by
  rw [Int.mul_emod, Int.emod_emod, ← Int.mul_emod]
/-- One round of multiplication by doubling keeps the result. -/
theorem mul_odd (a k o : Int) : ((o + a) % M + (2 * a % M) * k) % M = (o + a * (2 * k + 1)) % M := by
  have e : o + a * (2 * k + 1) = (o + a) + (2 * a) * k := by
    rw [Int.mul_add, Int.mul_one, ← Int.mul_assoc, Int.mul_comm a 2]; omega
  rw [e, Int.emod_add_emod, Int.add_emod, emm, ← Int.add_emod]

theorem mul_even (a k o : Int) : (o + (2 * a % M) * k) % M = (o + a * (2 * k)) % M := by
  have e : a * (2 * k) = (2 * a) * k := by rw [← Int.mul_assoc, Int.mul_comm a 2]
  rw [e, Int.add_emod, emm, ← Int.add_emod]

def inB (n lo hi : Int) : Bool := decide (lo ≤ n) && decide (n ≤ hi)
def isKeyB (n : Int) : Bool := inB n 1 1000000000
def isDigestB (n : Int) : Bool := inB n 0 2305843009213693950
theorem inB_true {n lo hi : Int} : inB n lo hi = true ↔ lo ≤ n ∧ n ≤ hi := by simp [inB]
theorem inB_false {n lo hi : Int} : inB n lo hi = false ↔ ¬ (lo ≤ n ∧ n ≤ hi) := by rw [← inB_true]; simp
theorem lt_le {n : Int} : decide (n < 2305843009213693951) = decide (n ≤ 2305843009213693950) := by
  rw [decide_eq_decide]; omega

def stepS (h b : Int) : Int := (h * 257 + b + 1) % M
def ofS (l : List UInt8) : Int := l.foldl (fun h b => stepS h (b.toNat : Int)) 1
theorem mod_range (x : Int) : 0 ≤ x % M ∧ x % M < M := ⟨Int.emod_nonneg _ (by decide), Int.emod_lt_of_pos _ (by decide)⟩
theorem stepS_range (a b : Int) : 0 ≤ stepS a b ∧ stepS a b < M := mod_range _
theorem ofS_snoc (l : List UInt8) (b : UInt8) : ofS (l ++ [b]) = stepS (ofS l) (b.toNat : Int) := by
  simp [ofS, List.foldl_append]
theorem next_eq (x b : Int) (hb : 0 ≤ b) (hb' : b < 2305843009213693951) : (wrap64 (x % M + b)).tmod 2305843009213693951 = (x + b) % M := by
  have h := mod_range x
  rw [M_eq] at h
  rw [M_eq, IntWalk.wrap64_in _ (by omega), Int.tmod_eq_emod_of_nonneg (by omega), Int.emod_add_emod]
theorem foldl_range (l : List UInt8) : ∀ h, 0 ≤ h ∧ h < M → 0 ≤ l.foldl (fun h b => stepS h (b.toNat : Int)) h ∧ l.foldl (fun h b => stepS h (b.toNat : Int)) h < M := by
  induction l with
  | nil => intro h hh; exact hh
  | cons b l ih => intro h _; exact ih _ (stepS_range _ _)
theorem ofS_range (l : List UInt8) : 0 ≤ ofS l ∧ ofS l < M := foldl_range l 1 (by decide)
end Pl
end Go.Proofs.YtgngehfgcogceaaGreatDoor

end
section
/- Plain words and laws on worlds: a slice that reads as a list of cells, own rows, appending. No program in sight. -/
namespace Go.Proofs.YtgngehfgcogceaaGreatDoor
open Go.RowKit

/-- The slice of n elements at oa holds the cells cs in w. -/
structure Sl (w : World) (oa : Option Addr) (n cap sz : Nat) (cs : List Value) : Prop where
  hl : cs.length = n * sz
  hcap : n ≤ cap
  hmax : cap ≤ maxLen
  mem : cs = [] ∨ ∃ b off, oa = some ⟨b, off, none⟩ ∧ b < w.heap.size ∧ ∀ j u, cs[j]? = some u → w.cell? ⟨b, off + j, none⟩ = some u

theorem Sl.below {w w' : World} {oa : Option Addr} {n cap sz : Nat} {cs : List Value} (h : Sl w oa n cap sz cs) {B : Nat} (hb : Below B w w') (hB : w.heap.size ≤ B) : Sl w' oa n cap sz cs := by
  refine ⟨h.hl, h.hcap, h.hmax, ?_⟩
  rcases h.mem with h0 | ⟨b, off, rfl, hlt, hc⟩
  · exact .inl h0
  · exact .inr ⟨b, off, rfl, Nat.lt_of_lt_of_le hlt hb.size, fun j u hu => (hb.cell (p := ⟨b, off + j, none⟩) (Nat.lt_of_lt_of_le hlt hB)).trans (hc j u hu)⟩

theorem Sl.nil (w : World) (sz : Nat) : Sl w none 0 0 sz [] := ⟨by simp, Nat.le_refl _, Nat.zero_le _, .inl rfl⟩

def byteVals (l : List UInt8) : List Value := l.map (fun b => .int .u8 (b.toNat : Int))
def intVals (l : List Int) : List Value := l.map (Value.int .i64)
theorem byteVals_length (l : List UInt8) : (byteVals l).length = l.length := by simp [byteVals]
theorem intVals_length (l : List Int) : (intVals l).length = l.length := by simp [intVals]
theorem byteVals_get (l : List UInt8) (k : Nat) (h : k < l.length) : (byteVals l)[k]? = some (.int .u8 (l[k].toNat : Int)) := by simp [byteVals, h]
theorem intVals_get (l : List Int) (k : Nat) (h : k < l.length) : (intVals l)[k]? = some (.int .i64 l[k]) := by simp [intVals, h]
/-- What is known of the elements of a slice type. -/
structure ElemT (P : Program) (t e : TypeId) (size bytes : Nat) : Prop where
  ht : P.underlying t = some (.slice e)
  hi : ∃ i z, P.info? e = some i ∧ i.zero = some z ∧ i.size = size ∧ i.bytes = bytes ∧ z.cells.size = size
  hs : 0 < size
  hby : 0 < bytes
theorem ElemT.maxLen_of {P : Program} {t e : TypeId} {size bytes k : Nat} (T : ElemT P t e size bytes) (h : k * bytes ≤ 140737488355328) : k ≤ maxLen := by
  have := Nat.le_mul_of_pos_right k T.hby
  simp only [maxLen]
  omega

theorem ownsRow_below {w w' : World} {base : Nat} {e : TypeId} {size : Nat} {v : Value} {n : Nat} {xs : List Value} (h : w.ownsRow base e size v n xs) {B : Nat} (hb : Below B w w') (hB : w.heap.size ≤ B) : w'.ownsRow base e size v n xs := by
  refine ⟨h.1, ?_⟩
  rcases h.2 with hn | ⟨g, cap, cur, rfl, hbg, hgg, rest⟩
  · exact .inl hn
  · have hlt := (Array.getElem?_eq_some_iff.1 hgg).1
    exact .inr ⟨g, cap, cur, rfl, hbg, (hb.block g (Nat.lt_of_lt_of_le hlt hB)).trans hgg, rest⟩

/-- An own row is a slice that reads. -/
theorem Sl.ofOwn {w : World} {base : Nat} {e : TypeId} {size : Nat} {v : Value} {n : Nat} {xs : List Value} (h : w.ownsRow base e size v n xs) : ∃ oa cap, v = .slice oa n cap ∧ Sl w oa n cap size xs := by
  rcases h.2 with ⟨rfl, rfl⟩ | ⟨g, cap, cur, rfl, hbg, hgg, h1, h2, h3, h4⟩
  · refine ⟨none, 0, rfl, ⟨h.1, Nat.le_refl _, Nat.zero_le _, .inl (List.eq_nil_of_length_eq_zero (by simpa using h.1))⟩⟩
  · refine ⟨some ⟨g, 0, none⟩, cap, rfl, ⟨h.1, h1, h2, .inr ⟨g, 0, rfl, (Array.getElem?_eq_some_iff.1 hgg).1, fun j u hu => ?_⟩⟩⟩
    have := h.cells (g := g) rfl j u hu
    rwa [show (⟨g, 0, none⟩ : Addr).add j = ⟨g, 0 + j, none⟩ by unfold Addr.add; split <;> simp_all] at this

theorem addr_add (b off j : Nat) : (⟨b, off, none⟩ : Addr).add j = ⟨b, off + j, none⟩ := by unfold Addr.add; split <;> simp_all

theorem Src.ofSl {P : Program} {w : World} {oa : Option Addr} {n cap sz : Nat} {cs : List Value} {t e : TypeId} (hk : P.underlying t = some (.slice e)) (h : Sl w oa n cap sz cs) (hsz : 0 < sz) (h1 : ∀ u ∈ cs, u.oneCell' = true) : Src P sz t (.slice oa n cap) n cs w := by
  rcases h.mem with rfl | ⟨b, off, rfl, _, hc⟩
  · have hn : n = 0 := by
      have := h.hl
      rcases Nat.eq_zero_or_pos n with h0 | h0
      · exact h0
      · have := Nat.mul_pos h0 hsz; simp at *; omega
    subst hn
    cases oa with
    | none => exact Src.ofNil w hk cap
    | some ad => exact Src.ofSlice w hk ad 0 cap [] (by simp) (by simp) (by simp)
  · exact Src.ofSlice w hk ⟨b, off, none⟩ n cap cs h.hl (fun j u hu => by rw [addr_add]; exact hc j u hu) h1

/-- append onto an own row, from whatever source. -/
theorem run_ap {P : Program} {w : World} {t tx ty e : TypeId} {size bytes : Nat} (T : ElemT P t e size bytes) {base : Nat} {v : Value} {n : Nat} {xs : List Value} (hown : w.ownsRow base e size v n xs)
    {x : Value} {m : Nat} {news : List Value} (hs : Src P size tx x m news w) (h63 : n + m ≤ maxLen) (hbytes : (n + m) * bytes ≤ 140737488355328) (hbase : base ≤ w.heap.size) :
    ∃ v' w', (Builtin.append_ #[t, tx] ty #[v, x]).run P w = .ok v' w' ∧ w'.ownsRow base e size v' (n + m) (xs ++ news) ∧ w.grownBy w' v.ownBlock ∧ (v'.ownBlock = v.ownBlock ∨ v'.ownBlock = some w.heap.size) := by
  obtain ⟨i, z, hi, hz, rfl, rfl, hzs⟩ := T.hi
  have hsmall : n + m ≤ 9223372036854775807 := by simp only [maxLen] at h63; omega
  have hlen : (xs ++ news).length = (n + m) * i.size := by rw [List.length_append, hown.1, hs.newsLen, Nat.add_mul]
  have grown : ∀ (old : Nat) (row : Option Nat),
      (w.drew.alloc (.cells ((xs ++ news).toArray ++ Builtin.zeroCells z.cells (grownCap w (n + m) old e - (n + m))) e)).ownsRow base e i.size
        (.slice (some ⟨w.heap.size, 0, none⟩) (n + m) (grownCap w (n + m) old e)) (n + m) (xs ++ news) ∧
      w.grownBy (w.drew.alloc (.cells ((xs ++ news).toArray ++ Builtin.zeroCells z.cells (grownCap w (n + m) old e - (n + m))) e)) row := by
    intro old row
    have hge := grownCap_ge w (n + m) old e
    have hcm : grownCap w (n + m) old e ≤ maxLen := grownCap_le_maxLen w (n + m) old e h63
    refine ⟨⟨hlen, .inr ⟨w.heap.size, _, _, rfl, hbase, heap_alloc_new w.drew _, hge, hcm, ?_, ?_⟩⟩, ⟨rfl, rfl, rfl, by simp, fun k hk _ => Below.heap_alloc w.drew _ k hk⟩⟩
    · simp only [Array.size_append, List.size_toArray, size_zeroCells, hzs, hlen, ← Nat.add_mul]
      congr 1
      omega
    · simp only [Array.toList_append]
      rw [← hlen]
      exact List.take_left
  rcases hown.2 with ⟨rfl, rfl⟩ | ⟨g, cap, cur, rfl, hbg, hg, hnc, hcm, hcs, htake⟩
  · have hx : xs = [] := List.eq_nil_of_length_eq_zero (by simpa using hown.1)
    subst hx
    by_cases hm : m = 0
    · subst hm
      have hn : news = [] := List.eq_nil_of_length_eq_zero (by simpa using hs.newsLen)
      subst hn
      refine ⟨.slice none 0 0, w, ?_, World.ownsRow_nil w base e i.size, ⟨rfl, rfl, rfl, Nat.le_refl _, fun _ _ _ => rfl⟩, .inl rfl⟩
      rcases hs.kind with ⟨e', hk⟩ | hk <;>
        simp [Builtin.append_, run_underlying T.ht, run_underlying hk, sizeOf, typeInfo, hi, hs.len, hs.cells]
    · have hr := run_append_grow_src (P := P) w t tx ty e i z T.ht hi hz none 0 0 [] (by simp [Builtin.firstCells]) x m news hs (by omega) (by omega) (growslice_fits (by omega) hbytes)
      have hgr := grown 0 (Value.ownBlock (.slice none 0 0))
      exact ⟨_, _, hr, hgr.1, hgr.2, .inr rfl⟩
  · by_cases hroom : n + m ≤ cap
    · have hlt := (Array.getElem?_eq_some_iff.1 hg).1
      have hfit : n * i.size + news.length ≤ cur.size := by rw [hs.newsLen, hcs, ← Nat.add_mul]; exact Nat.mul_le_mul_right _ hroom
      have hst := run_storeCells_at P g (n * i.size) e news 0 cur w hg (by simpa using hfit) hs.one
      simp only [Nat.add_zero] at hst
      refine ⟨.slice (some ⟨g, 0, none⟩) (n + m) cap, w.setRow g (cur.toList.take (n * i.size) ++ news ++ cur.toList.drop (n * i.size + news.length)).toArray, ?_, ⟨hlen, .inr ⟨g, cap, _, rfl, hbg, setRow_heap w g cur _ e _ hg, hroom, hcm, ?_, ?_⟩⟩, ⟨rfl, rfl, rfl, by simp, fun k _ hk => setRow_other w g k _ (fun e => hk (by simp [Value.ownBlock, e]))⟩, .inl rfl⟩
      · rcases hs.kind with ⟨e', hk⟩ | hk <;>
          simp [Builtin.append_, run_underlying T.ht, run_underlying hk, sizeOf, typeInfo, hi, hs.len, hroom, hs.cells, Addr.add_lit, hst]
      · simp only [List.size_toArray, List.length_append, List.length_take, List.length_drop, Array.length_toList]
        omega
      · rw [htake, ← hlen]
        exact List.take_left
    · have holds : ∀ j u, xs[j]? = some u → w.cell? ((⟨g, 0, none⟩ : Addr).add j) = some u := hown.cells (g := g) rfl
      have hr := run_append_grow_src (P := P) w t tx ty e i z T.ht hi hz (some ⟨g, 0, none⟩) n cap xs (run_firstCells_some w.drew i.size n ⟨g, 0, none⟩ n cap xs hown.1 (by simpa using holds)) x m news hs (by omega) (by omega) (growslice_fits (by omega) hbytes)
      have hgr := grown cap (Value.ownBlock (.slice (some ⟨g, 0, none⟩) n cap))
      exact ⟨_, _, hr, hgr.1, hgr.2, .inr rfl⟩

/-- append met in a walk: the row is the call's own from B on; below B nothing turns. -/
theorem ap {P : Program} {w : World} {ops : Array Oper} {rest : List Oper} {o : Oper} {a : Act} {Q : Exit → Act → World → Prop} (hgd : o.guard = none) {s x : Operand} {t tx : TypeId}
    (ho : o.op = .call { callee := .builtin .append, args := #[s, x], argTypes := #[t, tx] })
    {e : TypeId} {size bytes : Nat} (T : ElemT P t e size bytes) {B : Nat} {w0 : World} (hB : Below B w0 w) {v : Value} {n : Nat} {xs : List Value} (hs : a.eval s = v) (hown : w.ownsRow B e size v n xs)
    {m : Nat} {news : List Value} (hsrc : Src P size tx (a.eval x) m news w) (hbytes : (n + m) * bytes ≤ 140737488355328) (hbase : B ≤ w.heap.size)
    (h : ∀ v' w', w'.ownsRow B e size v' (n + m) (xs ++ news) → Below B w0 w' → w.heap.size ≤ w'.heap.size → wpList P ops Q rest (a.put o.dst v') w') : wpList P ops Q (o :: rest) a w := by
  obtain ⟨v', w', hr, h2, h3, _⟩ := run_ap (ty := o.type) T hown hsrc (T.maxLen_of hbytes) hbytes hbase
  refine wpList_plain hgd fun K hK => ?_
  unfold Oper.wp execOp
  simp only [ho, resolve, invoke, builtin, Sem.run_bind, Sem.run_pure, Result.andThen_ok, List.map_toArray, List.map_cons, List.map_nil, hs, hr]
  exact hK _ _ (h v' w' h2 (hB.grown h3 hbase fun k hk => (hown.lt k hk).1) h3.size)

/-- .. and which block the row lies in: blocks other than the row's own are as they were. -/
theorem apx {P : Program} {w : World} {ops : Array Oper} {rest : List Oper} {o : Oper} {a : Act} {Q : Exit → Act → World → Prop} (hgd : o.guard = none) {s x : Operand} {t tx : TypeId}
    (ho : o.op = .call { callee := .builtin .append, args := #[s, x], argTypes := #[t, tx] })
    {e : TypeId} {size bytes : Nat} (T : ElemT P t e size bytes) {B : Nat} {v : Value} {n : Nat} {xs : List Value} (hs : a.eval s = v) (hown : w.ownsRow B e size v n xs)
    {m : Nat} {news : List Value} (hsrc : Src P size tx (a.eval x) m news w) (hbytes : (n + m) * bytes ≤ 140737488355328) (hbase : B ≤ w.heap.size)
    (h : ∀ v' w', w'.ownsRow B e size v' (n + m) (xs ++ news) → w.grownBy w' v.ownBlock → (v'.ownBlock = v.ownBlock ∨ v'.ownBlock = some w.heap.size) → wpList P ops Q rest (a.put o.dst v') w') : wpList P ops Q (o :: rest) a w := by
  obtain ⟨v', w', hr, h2, h3, h4⟩ := run_ap (ty := o.type) T hown hsrc (T.maxLen_of hbytes) hbytes hbase
  refine wpList_plain hgd fun K hK => ?_
  unfold Oper.wp execOp
  simp only [ho, resolve, invoke, builtin, Sem.run_bind, Sem.run_pure, Result.andThen_ok, List.map_toArray, List.map_cons, List.map_nil, hs, hr]
  exact hK _ _ (h v' w' h2 h3 h4)

/-- append of elements that the statement itself has just laid. -/
theorem ap1 {P : Program} {w : World} {ops : Array Oper} {rest : List Oper} {o : Oper} {a : Act} {Q : Exit → Act → World → Prop} (hgd : o.guard = none) {s x : Operand} {t : TypeId}
    (ho : o.op = .call { callee := .builtin .append, args := #[s, x], argTypes := #[t, t] })
    {e e' : TypeId} {size bytes : Nat} (T : ElemT P t e size bytes) {B : Nat} {w0 : World} (hB : Below B w0 w) {v : Value} {n : Nat} {xs : List Value} (hs : a.eval s = v) (hown : w.ownsRow B e size v n xs)
    {m c : Nat} {C : List Value} (hx : a.eval x = .slice (some ⟨w.heap.size, 0, none⟩) m c) (hl : C.length = m * size) (h1 : C.all (fun u => u.oneCell') = true) (hbytes : (n + m) * bytes ≤ 140737488355328) (hbase : B ≤ w.heap.size)
    (h : ∀ v' w', w'.ownsRow B e size v' (n + m) (xs ++ C) → Below B w0 w' → w.heap.size < w'.heap.size → wpList P ops Q rest (a.put o.dst v') w') : wpList P ops Q (o :: rest) a (w.alloc (.cells C.toArray e')) := by
  refine ap hgd ho T (hB.alloc hbase _) hs (hown.alloc _) (m := m) (news := C) ?_ hbytes (by simp; omega) fun v' w' h2 h3 h4 => h v' w' h2 h3 (by simp at h4; omega)
  rw [hx]
  exact Src.ofSlice _ T.ht _ _ _ _ hl (fun j u hu => by rw [addr_add]; simp [hu]) (List.all_eq_true.1 h1)

/-- Behind a call: what was there reads as it did. -/
theorem bcell {W w1 : World} {B : Nat} (hb : Below B W w1) : (∀ b o, b < B → w1.cell? ⟨b, o, none⟩ = W.cell? ⟨b, o, none⟩) ∧ (∀ b o, b < B → w1.frozen? ⟨b, o, none⟩ = W.frozen? ⟨b, o, none⟩) :=
  ⟨fun b o h => hb.cell (p := ⟨b, o, none⟩) h, fun b o h => hb.frozen (p := ⟨b, o, none⟩) h⟩

theorem grownBy_trans_alloc {w w' : World} {o : Obj} {row : Option Nat} (h : (w.alloc o).grownBy w' row) : w.grownBy w' row :=
  ⟨h.os, h.tape, h.output, Nat.le_trans (by simp) h.size, fun k hk hr => (h.block k (by simp; omega) hr).trans (Below.heap_alloc _ _ _ hk)⟩

/-- A block of two cells. -/
structure Box2 (w : World) (r : Nat) (x y : Value) : Prop where
  c0 : w.cell? ⟨r, 0, none⟩ = some x
  c1 : w.cell? ⟨r, 1, none⟩ = some y
  f0 : w.frozen? ⟨r, 0, none⟩ = false
  f1 : w.frozen? ⟨r, 1, none⟩ = false
  lt : r < w.heap.size
theorem Box2.new (w : World) (x y : Value) (t : TypeId) : Box2 (w.alloc (.cells #[x, y] t)) w.heap.size x y :=
  ⟨by simp, by simp, World.frozen?_alloc_at _ _ _ _ rfl, World.frozen?_alloc_at _ _ _ _ rfl, by simp⟩
theorem Box2.below {w w' : World} {r : Nat} {x y : Value} (h : Box2 w r x y) {B : Nat} (hb : Below B w w') (hr : r < B) : Box2 w' r x y :=
  ⟨(hb.cell (p := ⟨r, 0, none⟩) hr).trans h.c0, (hb.cell (p := ⟨r, 1, none⟩) hr).trans h.c1, (hb.frozen (p := ⟨r, 0, none⟩) hr).trans h.f0, (hb.frozen (p := ⟨r, 1, none⟩) hr).trans h.f1, Nat.lt_of_lt_of_le h.lt hb.size⟩
theorem Box2.alloc {w : World} {r : Nat} {x y : Value} (h : Box2 w r x y) (o : Obj) : Box2 (w.alloc o) r x y :=
  h.below (B := w.heap.size) ((Below.refl _ _).alloc (Nat.le_refl _) _) h.lt

/-- Behind a call. -/
theorem bcall {B B' : Nat} {w W w1 : World} (h : Below B w W) (hb : Below B' W w1) (hB : B ≤ B') : Below B w w1 := h.trans (hb.mono hB)

theorem Sl.own {w : World} {base : Nat} {e : TypeId} {size n cap : Nat} {oa : Option Addr} {xs : List Value} (h : w.ownsRow base e size (.slice oa n cap) n xs) : Sl w oa n cap size xs := by
  obtain ⟨oa', cap', hv, hs⟩ := Sl.ofOwn h
  injection hv with e1 e2 e3
  subst e1; subst e3
  exact hs
theorem own_slice {w : World} {base : Nat} {e : TypeId} {size n : Nat} {v : Value} {xs : List Value} (h : w.ownsRow base e size v n xs) : ∃ oa cap, v = .slice oa n cap :=
  let ⟨oa, cap, hv, _⟩ := Sl.ofOwn h
  ⟨oa, cap, hv⟩
theorem take_snoc {α : Type} {l : List α} {k : Nat} {x : α} (h : l[k]? = some x) : l.take k ++ [x] = l.take (k + 1) := by
  obtain ⟨hk, rfl⟩ := List.getElem?_eq_some_iff.1 h
  rw [List.take_succ_eq_append_getElem hk]

/-- The first k elements pass the test. -/
def UpTo {α : Type} (p : α → Bool) (xs : List α) (k : Nat) : Prop := ∀ j (h : j < xs.length), j < k → p xs[j] = true
theorem UpTo.zero {α : Type} (p : α → Bool) (xs : List α) : UpTo p xs 0 := fun _ _ h => absurd h (by omega)
theorem UpTo.succ {α : Type} {p : α → Bool} {xs : List α} {k : Nat} (h : UpTo p xs k) (hk : k < xs.length) (hp : p xs[k] = true) : UpTo p xs (k + 1) := fun j hj h1 => by
  by_cases e : j = k
  · subst e; exact hp
  · exact h j hj (by omega)
theorem UpTo.bad {α : Type} {p : α → Bool} {xs : List α} {k : Nat} (h : UpTo p xs k) (hk : k < xs.length) (hp : p xs[k] = false) : xs.findIdx? (fun x => !p x) = some k := by
  rw [List.findIdx?_eq_some_iff_getElem]
  exact ⟨hk, by simp [hp], fun j hj => by simp [h j (by omega) hj]⟩
theorem UpTo.all {α : Type} {p : α → Bool} {xs : List α} (h : UpTo p xs xs.length) : xs.findIdx? (fun x => !p x) = none := by
  rw [List.findIdx?_eq_none_iff]
  intro x hx
  obtain ⟨j, hj, rfl⟩ := List.mem_iff_getElem.1 hx
  simp [h j hj hj]
end Go.Proofs.YtgngehfgcogceaaGreatDoor

end
section
/- Contracts of the small functions: tests of ranges, the digest's arithmetic. -/
namespace Go.Proofs.YtgngehfgcogceaaGreatDoor
open Go.RowKit

theorem quiet_eq {P : Program} {f : FuncId} {args : Array Value} {w : World} {n : Nat} {v : Value}
    (h : Calls P f args (w.drewN n) fun e w' => e = .returned v ∧ w.drewN n = w') : Calls P f args (w.drewN n) fun e w'' => e = .returned v ∧ ∃ m, w'' = w.drewN m :=
  h.mono fun _ _ ⟨he, hm⟩ => ⟨he, n, hm.symm⟩
theorem ret_int {k : IntKind} {a b : Int} (h : a = b) : Ending.returned (.int k a) = .returned (.int k b) := by rw [h]

theorem mul_any (a b : Int) (w : World) (ha : 0 ≤ a) (ha' : a < 2305843009213693951) (hb : 0 ≤ b) (hb' : b ≤ 9223372036854775807) :
    Calls Tryz.prog 81 #[.int .i64 a, .int .i64 b] w fun e w' => e = .returned (.int .i64 ((a * b) % Pl.M)) ∧ w = w' := by
  go_enter Tryz.func81, Tryz.ntmps81
  go_wp2
  go_loop [0, 1, 5] (fun x y o => ∃ a1 b1 o1 : Int, x = .int .i64 a1 ∧ y = .int .i64 b1 ∧ o = .int .i64 o1 ∧ 0 ≤ a1 ∧ a1 < 2305843009213693951 ∧ 0 ≤ b1 ∧ b1 ≤ 9223372036854775807 ∧ 0 ≤ o1 ∧ o1 < 2305843009213693951 ∧ (o1 + a1 * b1) % Pl.M = (a * b) % Pl.M) (fun _ y _ => (intOf y).toNat)
  case atStart => exact ⟨a, b, 0, rfl, rfl, rfl, ha, ha', hb, hb', by decide, by decide, by rw [Int.zero_add]⟩
  case round =>
    obtain ⟨a1, b1, o1, rfl, rfl, rfl, h1, h2, h3, h4, h5, h6, h7⟩ := hrel
    have H7 := Lib.hid h7
    clear h7
    have hand := and_one b1 h3 h4
    by_cases hz : 0 < b1
    · by_cases hp : b1 % 2 = 1
      · have ht : (bits BinOp.and IntKind.i64 b1 1 == 1) = true := by rw [hand, hp]; rfl
        clear hand
        go_wp2
        go_round
        case rel => exact ⟨_, _, _, rfl, rfl, rfl, by omega, by omega, by omega, by omega, by omega, by omega, by
          rw [← H7.out]; have := Pl.mul_odd a1 (b1 / 2) o1; rw [show 2 * (b1 / 2) + 1 = b1 by omega] at this; exact this⟩
        case measure => simp [intOf]; omega
      · have ht : (bits BinOp.and IntKind.i64 b1 1 == 1) = false := by rw [hand]; simp; omega
        clear hand
        go_wp2
        go_round
        case rel => exact ⟨_, _, _, rfl, rfl, rfl, by omega, by omega, by omega, by omega, by omega, by omega, by
          rw [← H7.out]; have := Pl.mul_even a1 (b1 / 2) o1; rw [show 2 * (b1 / 2) = b1 by omega] at this; exact this⟩
        case measure => simp [intOf]; omega
    · clear hand
      go_wp2
      go_ret
      refine ⟨?_, rfl⟩
      rw [← H7.out]
      have : b1 = 0 := by omega
      subst this
      exact ret_int (by rw [Int.mul_zero, Int.add_zero]; exact (Int.emod_eq_of_lt h5 h6).symm)

theorem ret_bool {a b : Bool} (h : a = b) : Ending.returned (.bool a) = .returned (.bool b) := by rw [h]

theorem isDigest_any (n : Int) (w : World) :
    Calls Tryz.prog 41 #[.int .i64 n] w fun e w' => e = .returned (.bool (Pl.isDigestB n)) ∧ w = w' := by
  go_enter Tryz.func41, Tryz.ntmps41
  go_wp2
  all_goals (go_ret; exact ⟨ret_bool (by unfold Pl.isDigestB Pl.inB; simp [Pl.lt_le]; omega), rfl⟩)
theorem next_any (a b f : Int) (w : World) (ha : 0 ≤ a) (ha' : a < 2305843009213693951) (hb : 0 ≤ b) (hb' : b < 2305843009213693951) (hf : 0 ≤ f) (hf' : f ≤ 9223372036854775807) :
    Calls Tryz.prog 62 #[.agg #[.int .i64 a, .int .i64 b], .int .i64 f] w fun e w' => e = .returned (.int .i64 ((a * f + b) % Pl.M)) ∧ Below w.heap.size w w' := by
  go_enter Tryz.func62, Tryz.ntmps62
  go_wp2
  go_quiet ((go_at_call 81; exact quiet_eq (mul_any _ _ _ ha ha' hf hf')))
  go_wp2
  go_ret
  refine ⟨ret_int (Pl.next_eq _ _ hb hb'), ?_⟩
  exact below_drewN ((Below.refl _ _).alloc (Nat.le_refl _) _) _

end Go.Proofs.YtgngehfgcogceaaGreatDoor

end
section
/- Contracts: digests of data, signatures. -/
namespace Go.Proofs.YtgngehfgcogceaaGreatDoor
open Go.RowKit

namespace Pl
end Pl

theorem take_succ {α : Type} (l : List α) (k : Nat) (h : k < l.length) : l.take (k + 1) = l.take k ++ [l[k]] := by
  rw [List.take_succ_eq_append_getElem h]

/-- The digest of data that is not too long. -/
theorem Of_ok (l : List UInt8) (oa : Option Addr) (cap : Nat) (w : World) (hs : Sl w oa l.length cap 1 (byteVals l)) (hn : l.length ≤ 4096) :
    Calls Tryz.prog 40 #[.slice oa l.length cap] w fun e w' => e = .returned (.tuple #[.int .i64 (Pl.ofS l), .agg #[.int .i64 0, .int .i64 0]]) ∧ Below w.heap.size w w' := by
  rcases hs.mem with h0 | ⟨b, off, rfl, hlt, hc⟩
  · have hl : l = [] := by simpa [byteVals] using h0
    subst hl
    clear hn
    go_enter Tryz.func40, Tryz.ntmps40
    go_wp2
    go_rounds 1
    go_returns
    exact ⟨rfl, by go_grown⟩
  · clear hs
    go_enter Tryz.func40, Tryz.ntmps40
    go_wp2
    go_loopw [4, 13] (fun h i wr => ∃ k : Nat, k ≤ l.length ∧ i = .int .i64 k ∧ h = .int .i64 (Pl.ofS (l.take k)) ∧ Below (w.heap.size + 1) (w.alloc (.cells #[.int .i64 0, .int .i64 0] 30)) wr) (fun _ i _ => l.length - (intOf i).toNat)
    case atStart => exact ⟨0, Nat.zero_le _, rfl, rfl, Below.refl _ _⟩
    case round =>
      obtain ⟨k, hk, rfl, rfl, hb⟩ := hrel
      by_cases hlt2 : k < l.length
      · have hcell : wr.cell? ⟨b, off + k, none⟩ = some (.int .u8 (l[k].toNat : Int)) := by
          rw [hb.cell (p := ⟨b, off + k, none⟩) (by simp; omega), World.cell?_alloc_past _ _ _ hlt]
          exact hc k _ (byteVals_get l k hlt2)
        have hr := Pl.ofS_range (l.take k)
        have hr1 := hr.1
        have hr2 : Pl.ofS (l.take k) < 2305843009213693951 := hr.2
        have hu := l[k].toNat_lt
        clear hc hr
        go_wp2_with fail
        refine (next_any _ _ _ _ hr1 hr2 (by omega) (by omega) (by omega) (by omega)).mono ?_
        rintro e w1 ⟨rfl, hb1⟩
        go_wp2_with fail
        go_roundw
        case rel => exact ⟨k + 1, hlt2, by go_num, by rw [take_succ l k hlt2, Pl.ofS_snoc]; unfold Pl.stepS; rw [Int.add_assoc], hb.trans (hb1.mono (by have := hb.size; simpa using this))⟩
        case measure => simp [intOf]; omega
      · obtain rfl : k = l.length := by omega
        obtain ⟨hc1, hf1⟩ := bcell hb
        go_wp2_with fail
        refine bodyPost_ret (v := .tuple #[.int .i64 (Pl.ofS l), .agg #[.int .i64 0, .int .i64 0]]) (by simp [results, Tryz.results40, go_sem, hc1]) rfl ⟨rfl, ?_⟩
        exact ((((Below.refl _ _).alloc (Nat.le_refl _) _).trans (hb.mono (by simp))).setCell (by simp) _).setCell (by simp) _

namespace Pl
end Pl

end Go.Proofs.YtgngehfgcogceaaGreatDoor

end
section
/- Contracts: messages. -/
namespace Go.Proofs.YtgngehfgcogceaaGreatDoor
open Go.RowKit

namespace Pl
def b8 (x : Int) : UInt8 := UInt8.ofNat (x % 256).toNat
def bigS (n : Int) : List UInt8 := [b8 (n / 72057594037927936), b8 (n / 281474976710656), b8 (n / 1099511627776), b8 (n / 4294967296), b8 (n / 16777216), b8 (n / 65536), b8 (n / 256), b8 n]
end Pl
namespace Pl
/-- The fault of a list of numbers that must be digests; hi: the index of the first. -/
def digF (hi : Int) (xs : List Int) : Int × Int := match xs.findIdx? (fun x => !isDigestB x) with
  | some i => (3, hi + (i : Int))
  | none => (0, 0)
def msgF (xs : List Int) : Int × Int := if xs.length ≤ 64 then digF 0 xs else (2, -1)
def msgS (xs : List Int) : List UInt8 := xs.flatMap bigS
def msgV (xs : List Int) : List UInt8 := if (msgF xs).1 = 0 then msgS xs else []
end Pl

end Go.Proofs.YtgngehfgcogceaaGreatDoor

end
section
/- Contracts: messages made; lists compared. -/
namespace Go.Proofs.YtgngehfgcogceaaGreatDoor
open Go.RowKit
namespace Pl
theorem msgV_ok {xs : List Int} (h : msgF xs = (0, 0)) : msgV xs = msgS xs := by simp [msgV, h]
theorem msgV_bad {xs : List Int} (h : (msgF xs).1 ≠ 0) : msgV xs = [] := by simp [msgV, h]
end Pl

def RetMsg (xs : List Int) (w : World) (e : Ending) (w' : World) : Prop :=
  ∃ oa cap, e = .returned (.tuple #[.slice oa (Pl.msgV xs).length cap, .agg #[.int .i64 (Pl.msgF xs).1, .int .i64 (Pl.msgF xs).2]]) ∧
    w'.ownsRow w.heap.size 5 1 (.slice oa (Pl.msgV xs).length cap) (Pl.msgV xs).length (byteVals (Pl.msgV xs)) ∧ Below w.heap.size w w'

theorem RetMsg.bad {xs : List Int} {w w' : World} {c i : Int} (h : Pl.msgF xs = (c, i)) (hc : c ≠ 0) (hb : Below w.heap.size w w') : RetMsg xs w (.returned (.tuple #[.slice none 0 0, .agg #[.int .i64 c, .int .i64 i]])) w' := by
  have hv : Pl.msgV xs = [] := Pl.msgV_bad (by rw [h]; exact hc)
  refine ⟨none, 0, ?_, ?_, hb⟩
  · rw [hv, h]; rfl
  · rw [hv]; exact World.ownsRow_nil _ _ _ _
theorem RetMsg.ok {xs : List Int} {w w' : World} {v : Value} (h : Pl.msgF xs = (0, 0)) {B n : Nat} (hn : n = (Pl.msgS xs).length) (hown : w'.ownsRow B 5 1 v n (byteVals (Pl.msgS xs))) (hB : w.heap.size ≤ B) (hb : Below w.heap.size w w') : RetMsg xs w (.returned (.tuple #[v, .agg #[.int .i64 0, .int .i64 0]])) w' := by
  obtain ⟨oa, cap, rfl⟩ := own_slice hown
  subst hn
  refine ⟨oa, cap, ?_, ?_, hb⟩
  · rw [Pl.msgV_ok h, h]
  · rw [Pl.msgV_ok h]
    refine ⟨hown.1, ?_⟩
    rcases hown.2 with h0 | ⟨g, c, cur, h1, h2, h3⟩
    · exact .inl h0
    · exact .inr ⟨g, c, cur, h1, by omega, h3⟩

end Go.Proofs.YtgngehfgcogceaaGreatDoor

end
section
/- Total orders in plain words: no program in sight. -/
namespace Go.Proofs.YtgngehfgcogceaaGreatDoor
namespace Pl

/-- c is a total order on what p names. -/
structure TO {α : Type} (c : α → α → Int) (p : α → Prop) : Prop where
  rng : ∀ a b, c a b = -1 ∨ c a b = 0 ∨ c a b = 1
  anti : ∀ a b, p a → p b → c b a = - c a b
  eq : ∀ a b, p a → p b → (c a b = 0 ↔ a = b)
  tr : ∀ a b d, p a → p b → p d → c a b ≤ 0 → c b d ≤ 0 → c a d ≤ 0

theorem TO.lt_le {α : Type} {c : α → α → Int} {p : α → Prop} (T : TO c p) {a b d : α} (ha : p a) (hb : p b) (hd : p d) (h1 : c a b < 0) (h2 : c b d ≤ 0) : c a d < 0 := by
  have h3 := T.tr a b d ha hb hd (by omega) h2
  by_cases h0 : c a d = 0
  · have e := (T.eq a d ha hd).1 h0
    subst e
    have := T.anti a b ha hb
    omega
  · omega
theorem TO.le_lt {α : Type} {c : α → α → Int} {p : α → Prop} (T : TO c p) {a b d : α} (ha : p a) (hb : p b) (hd : p d) (h1 : c a b ≤ 0) (h2 : c b d < 0) : c a d < 0 := by
  have h3 := T.tr a b d ha hb hd h1 (by omega)
  by_cases h0 : c a d = 0
  · have e := (T.eq a d ha hd).1 h0
    subst e
    have := T.anti a b ha hb
    omega
  · omega
theorem TO.mono {α : Type} {c : α → α → Int} {p q : α → Prop} (T : TO c p) (h : ∀ a, q a → p a) : TO c q :=
  ⟨T.rng, fun a b ha hb => T.anti a b (h a ha) (h b hb), fun a b ha hb => T.eq a b (h a ha) (h b hb), fun a b d ha hb hd => T.tr a b d (h a ha) (h b hb) (h d hd)⟩
theorem TO.pull {α β : Type} {c : β → β → Int} {p : β → Prop} (T : TO c p) (f : α → β) (q : α → Prop) (h : ∀ a, q a → p (f a)) (inj : ∀ a b, q a → q b → f a = f b → a = b) : TO (fun a b => c (f a) (f b)) q :=
  ⟨fun a b => T.rng _ _, fun a b ha hb => T.anti _ _ (h a ha) (h b hb), fun a b ha hb => ⟨fun e => inj a b ha hb ((T.eq _ _ (h a ha) (h b hb)).1 e), fun e => by subst e; exact (T.eq _ _ (h _ ha) (h _ ha)).2 rfl⟩, fun a b d ha hb hd => T.tr _ _ _ (h a ha) (h b hb) (h d hd)⟩

def sgn (x y : Int) : Int := if x < y then -1 else if y < x then 1 else 0
theorem sgn_TO : TO sgn (fun _ => True) := by
  refine ⟨fun a b => ?_, fun a b _ _ => ?_, fun a b _ _ => ?_, fun a b d _ _ _ => ?_⟩ <;> unfold sgn <;> repeat' split <;> omega

def lexP {α β : Type} (c : α → α → Int) (e : β → β → Int) (a b : α × β) : Int := if c a.1 b.1 = 0 then e a.2 b.2 else c a.1 b.1
theorem lexP_TO {α β : Type} {c : α → α → Int} {e : β → β → Int} {p : α → Prop} {q : β → Prop} (T : TO c p) (U : TO e q) : TO (lexP c e) (fun a => p a.1 ∧ q a.2) := by
  refine ⟨fun a b => ?_, fun a b ha hb => ?_, fun a b ha hb => ?_, fun a b d ha hb hd h1 h2 => ?_⟩
  · unfold lexP; split
    · exact U.rng _ _
    · exact T.rng _ _
  · unfold lexP
    have h1 := T.anti _ _ ha.1 hb.1
    have h2 := U.anti _ _ ha.2 hb.2
    repeat' split <;> omega
  · unfold lexP
    have h1 := T.eq _ _ ha.1 hb.1
    have h2 := U.eq _ _ ha.2 hb.2
    split
    · rename_i h; rw [h2]
      exact ⟨fun h3 => Prod.ext (h1.1 h) h3, fun h3 => by rw [h3]⟩
    · rename_i h
      exact ⟨fun h3 => absurd h3 h, fun h3 => absurd (h1.2 (by rw [h3])) h⟩
  · unfold lexP at h1 h2 ⊢
    by_cases e1 : c a.1 b.1 = 0
    · rw [if_pos e1] at h1
      have e1' := (T.eq _ _ ha.1 hb.1).1 e1
      rw [← e1'] at h2
      by_cases e2 : c a.1 d.1 = 0
      · rw [if_pos e2] at h2 ⊢
        exact U.tr _ _ _ ha.2 hb.2 hd.2 h1 h2
      · rw [if_neg e2] at h2 ⊢
        exact h2
    · rw [if_neg e1] at h1
      have h3 : c b.1 d.1 ≤ 0 := by
        by_cases e2 : c b.1 d.1 = 0
        · omega
        · rw [if_neg e2] at h2; exact h2
      have h4 := T.lt_le ha.1 hb.1 hd.1 (show c a.1 b.1 < 0 by omega) h3
      rw [if_neg (by omega)]
      omega

def lexL {α : Type} (c : α → α → Int) : List α → List α → Int
  | [], [] => 0
  | [], _ :: _ => -1
  | _ :: _, [] => 1
  | a :: a2, b :: b2 => if c a b = 0 then lexL c a2 b2 else c a b
theorem lexL_TO {α : Type} {c : α → α → Int} {p : α → Prop} (T : TO c p) : TO (lexL c) (fun l => ∀ x ∈ l, p x) := by
  refine ⟨?_, ?_, ?_, ?_⟩
  · intro a
    induction a with
    | nil => intro b; cases b <;> simp [lexL]
    | cons x a ih =>
      intro b
      cases b with
      | nil => simp [lexL]
      | cons y b =>
        rw [lexL]; split
        · exact ih b
        · exact T.rng _ _
  · intro a
    induction a with
    | nil => intro b _ _; cases b <;> simp [lexL]
    | cons x a ih =>
      intro b ha hb
      cases b with
      | nil => simp [lexL]
      | cons y b =>
        have h1 := T.anti x y (ha x (by simp)) (hb y (by simp))
        have h2 := ih b (fun z hz => ha z (by simp [hz])) (fun z hz => hb z (by simp [hz]))
        rw [lexL, lexL]
        repeat' split <;> omega
  · intro a
    induction a with
    | nil => intro b _ _; cases b <;> simp [lexL]
    | cons x a ih =>
      intro b ha hb
      cases b with
      | nil => simp [lexL]
      | cons y b =>
        have h1 := T.eq x y (ha x (by simp)) (hb y (by simp))
        have h2 := ih b (fun z hz => ha z (by simp [hz])) (fun z hz => hb z (by simp [hz]))
        rw [lexL]
        split
        · rename_i h; rw [h2, h1.1 h]; simp
        · rename_i h
          exact ⟨fun h3 => absurd h3 h, fun h3 => by cases h3; exact absurd (h1.2 rfl) h⟩
  · intro a
    induction a with
    | nil => intro b d _ _ _ h1 h2; cases d <;> simp [lexL]
    | cons x a ih =>
      intro b d ha hb hd h1 h2
      cases b with
      | nil => simp [lexL] at h1
      | cons y b =>
        cases d with
        | nil => simp [lexL] at h2
        | cons z d =>
          have px := ha x (by simp)
          have py := hb y (by simp)
          have pz := hd z (by simp)
          rw [lexL] at h1 h2 ⊢
          by_cases e1 : c x y = 0
          · rw [if_pos e1] at h1
            have e1' := (T.eq _ _ px py).1 e1
            subst e1'
            by_cases e2 : c x z = 0
            · rw [if_pos e2] at h2 ⊢
              exact ih b d (fun u hu => ha u (by simp [hu])) (fun u hu => hb u (by simp [hu])) (fun u hu => hd u (by simp [hu])) h1 h2
            · rw [if_neg e2] at h2 ⊢
              exact h2
          · rw [if_neg e1] at h1
            have h3 : c y z ≤ 0 := by
              by_cases e2 : c y z = 0
              · omega
              · rw [if_neg e2] at h2; exact h2
            have h4 := T.lt_le px py pz (show c x y < 0 by omega) h3
            rw [if_neg (by omega)]
            omega

theorem byte_TO : TO (fun a b : UInt8 => sgn a.toNat b.toNat) (fun _ => True) :=
  sgn_TO.pull (fun a : UInt8 => (a.toNat : Int)) _ (fun _ h => h) (fun a b _ _ h => UInt8.toNat_inj.1 (by omega))
theorem compareBytes_lex : ∀ a b : List UInt8, Lib.compareBytes a b = lexL (fun a b : UInt8 => sgn a.toNat b.toNat) a b
  | [], [] => rfl
  | [], _ :: _ => rfl
  | _ :: _, [] => rfl
  | a :: a2, b :: b2 => by
    rw [Lib.compareBytes, lexL, compareBytes_lex a2 b2]
    simp only [sgn, UInt8.lt_iff_toNat_lt]
    repeat' split <;> omega
theorem compareBytes_TO : TO Lib.compareBytes (fun _ => True) := by
  have h := (lexL_TO byte_TO).mono (q := fun _ => True) (fun _ _ _ _ => trivial)
  rwa [show (lexL fun a b : UInt8 => sgn a.toNat b.toNat) = Lib.compareBytes from funext fun a => funext fun b => (compareBytes_lex a b).symm] at h
end Pl
end Go.Proofs.YtgngehfgcogceaaGreatDoor

end
section
/- Plain words of package threshold: no program in sight. -/
namespace Go.Proofs.YtgngehfgcogceaaGreatDoor
open Go.RowKit
namespace Pl
/-- A key list without fault. -/
structure Keys (xs : List Int) : Prop where
  len : xs.length ≤ 12
  key : ∀ i, i < xs.length → isKeyB (xs.getD i 0) = true
  inc : ∀ i, 0 < i → i < xs.length → xs.getD (i - 1) 0 < xs.getD i 0
theorem Keys.mem {xs : List Int} (h : Keys xs) {x : Int} (hx : x ∈ xs) : isKeyB x = true := by
  obtain ⟨i, hi, rfl⟩ := List.mem_iff_getElem.1 hx
  have := h.key i hi
  rwa [List.getD_eq_getElem?_getD, List.getElem?_eq_getElem hi] at this

end Pl
end Go.Proofs.YtgngehfgcogceaaGreatDoor

end
section
/- Plain words of versions: no program in sight. -/
namespace Go.Proofs.YtgngehfgcogceaaGreatDoor
namespace Pl

def digB (c : UInt8) : Bool := decide (48 ≤ c.toNat) && decide (c.toNat ≤ 57)
def idcB (c : UInt8) : Bool := digB c || (decide (97 ≤ c.toNat) && decide (c.toNat ≤ 122)) || (decide (65 ≤ c.toNat) && decide (c.toNat ≤ 90)) || c == 45
/-- Only digits (the empty text, too). -/
def digsB (s : List UInt8) : Bool := s.all digB
/-- An identifier of a pre-release. -/
def identB (s : List UInt8) : Bool := decide (1 ≤ s.length) && decide (s.length ≤ 8) && s.all idcB && !(digsB s && decide (1 < s.length) && s.head? == some 48)
/-- The number that digits denote. -/
def valL (s : List UInt8) : Int := s.foldl (fun n c => 10 * n + ((c.toNat : Int) - 48)) 0

/-- The program's order of identifiers. -/
def idKey (s : List UInt8) : Int × Int × List UInt8 := (if digsB s then 0 else 1, if digsB s then (s.length : Int) else 0, s)
def idCmp (a b : List UInt8) : Int := lexP sgn (lexP sgn Lib.compareBytes) (idKey a) (idKey b)
theorem idCmp_TO : TO idCmp (fun _ => True) :=
  (lexP_TO sgn_TO (lexP_TO sgn_TO compareBytes_TO)).pull idKey _ (fun _ _ => ⟨trivial, trivial, trivial⟩) (fun a b _ _ h => by
    have h := congrArg (fun x => x.2.2) h
    exact h)

theorem fold_val (s : List UInt8) (n : Int) : s.foldl (fun n c => 10 * n + ((c.toNat : Int) - 48)) n = n * 10 ^ s.length + valL s := by
  unfold valL
  induction s generalizing n with
  | nil => simp
  | cons c s ih =>
    rw [List.foldl_cons, List.foldl_cons, ih, ih (10 * 0 + _), List.length_cons, Int.pow_succ]
    simp only [Int.mul_zero, Int.zero_add]
    rw [Int.add_mul, ← Int.mul_assoc, Int.add_assoc]
    congr 1
    rw [Int.mul_comm 10 n, Int.mul_assoc, Int.mul_assoc, Int.mul_comm 10]
theorem valL_cons (c : UInt8) (s : List UInt8) : valL (c :: s) = ((c.toNat : Int) - 48) * 10 ^ s.length + valL s := by
  show (c :: s).foldl _ 0 = _
  rw [List.foldl_cons, fold_val]
  simp
theorem digB_iff {c : UInt8} : digB c = true ↔ 48 ≤ c.toNat ∧ c.toNat ≤ 57 := by simp [digB]
theorem valL_bounds : ∀ {s : List UInt8}, digsB s = true → 0 ≤ valL s ∧ valL s < 10 ^ s.length
  | [], _ => by simp [valL]
  | c :: s, h => by
    simp only [digsB, List.all_cons, Bool.and_eq_true] at h
    have h1 := digB_iff.1 h.1
    have h2 := valL_bounds (s := s) h.2
    rw [valL_cons, List.length_cons, Int.pow_succ]
    have h3 : (0 : Int) < 10 ^ s.length := Int.pow_pos (by omega)
    have h4 : 0 ≤ ((c.toNat : Int) - 48) * 10 ^ s.length := Int.mul_nonneg (by omega) (by omega)
    have h5 : ((c.toNat : Int) - 48) * 10 ^ s.length ≤ 9 * 10 ^ s.length := Int.mul_le_mul_of_nonneg_right (by omega) (by omega)
    omega
theorem identB_iff {s : List UInt8} : identB s = true ↔ 1 ≤ s.length ∧ s.length ≤ 8 ∧ s.all idcB = true ∧ (digsB s = true → 1 < s.length → s.head? ≠ some 48) := by
  unfold identB
  simp only [Bool.and_eq_true, decide_eq_true_eq, Bool.not_eq_true', Bool.and_eq_false_iff, decide_eq_false_iff_not, beq_eq_false_iff_ne, and_assoc]
  refine and_congr_right fun _ => and_congr_right fun _ => and_congr_right fun _ => ⟨fun h h1 h2 => ?_, fun h => ?_⟩
  · rcases h with (h | h) | h
    · rw [h1] at h; cases h
    · exact absurd h2 h
    · exact h
  · cases h1 : digsB s
    · exact .inl (.inl rfl)
    · by_cases h2 : 1 < s.length
      · exact .inr (h h1 h2)
      · exact .inl (.inr h2)
end Pl
end Go.Proofs.YtgngehfgcogceaaGreatDoor

end
