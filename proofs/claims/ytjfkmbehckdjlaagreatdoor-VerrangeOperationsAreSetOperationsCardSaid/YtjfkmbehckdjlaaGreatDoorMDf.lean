/- Texts joined: Kv Df. -/
import Derived.Test.YtjfkmbehckdjlaaGreatDoorMKl
import Derived.Test.YtjfkmbehckdjlaaGreatDoorDe
section
/- Own rows lie above a base; slices across stores elsewhere. No program in sight. -/
namespace Go.Proofs.YtjfkmbehckdjlaaGreatDoor
open Go.RowKit

theorem own_ge {w : World} {base : Nat} {e : TypeId} {size n cap : Nat} {oa : Option Addr} {xs : List Value} (h : w.ownsRow base e size (.slice oa n cap) n xs) : ∀ b off, oa = some ⟨b, off, none⟩ → base ≤ b := by
  intro b off hb
  subst hb
  rcases h.2 with ⟨a1, a2⟩ | ⟨g, c, cur, a1, hbg, _⟩
  · first | cases a1 | cases a2
  · cases a1
    exact hbg
end Go.Proofs.YtjfkmbehckdjlaaGreatDoor

end
section
/- Ranges in rows of one's own: appending, storing elsewhere. -/
namespace Go.Proofs.YtjfkmbehckdjlaaGreatDoor
open Go.RowKit

set_option maxRecDepth 100000 in
theorem Tryz.tIvl : ElemT Tryz.prog 22 58 9 104 := ⟨Tryz.underlying22, ⟨_, _, rfl, rfl, rfl, rfl, rfl⟩, by decide, by decide⟩
/-- The slice is empty, or lies in a block of this kind. -/
def SlQ (Q : Nat → Prop) (a : Option Addr) (n : Nat) : Prop := n = 0 ∨ ∃ b off, a = some ⟨b, off, none⟩ ∧ Q b
theorem SlQ.mono {Q R : Nat → Prop} {a : Option Addr} {n : Nat} (h : SlQ Q a n) (hQ : ∀ b, Q b → R b) : SlQ R a n := h.elim .inl fun ⟨b, off, h1, h2⟩ => .inr ⟨b, off, h1, hQ b h2⟩
theorem VIn.at {w : World} {v : Pl.Ver} {a : Option Addr} {c : Nat} (h : VIn w v a c) : SlQ (fun b => b < w.heap.size) a v.pre.length := by
  rcases h.sl.mem with h0 | ⟨b, off, rfl, hlt, _⟩
  · have : v.pre = [] := by simpa [strVals] using h0
    rw [this]; exact .inl rfl
  · exact .inr ⟨b, off, rfl, hlt⟩
theorem VIn.with {w : World} {v : Pl.Ver} {a : Option Addr} {c : Nat} {Q : Nat → Prop} (h : VIn w v a c) (hq : SlQ Q a v.pre.length) : SlQ (fun b => Q b ∧ b < w.heap.size) a v.pre.length := by
  rcases hq with h0 | ⟨b, off, rfl, hb⟩
  · exact .inl h0
  · rcases h.at with h0 | ⟨b2, off2, e, hb2⟩
    · exact .inl h0
    · cases e; exact .inr ⟨b, off, rfl, hb, hb2⟩
/-- A version whose identifiers do not lie in the row that grows. -/
theorem VIn.grown {w w' : World} {v : Pl.Ver} {a : Option Addr} {c : Nat} {row : Option Nat} (h : VIn w v a c) (hg : w.grownBy w' row) (hq : SlQ (fun b => some b ≠ row) a v.pre.length) : VIn w' v a c := by
  refine ⟨⟨h.sl.hl, h.sl.hcap, h.sl.hmax, ?_⟩, h.ss⟩
  rcases h.sl.mem with h0 | ⟨b, off, rfl, hlt, hc⟩
  · exact .inl h0
  · rcases hq with h0 | ⟨b2, off2, e, hb⟩
    · left
      have : v.pre = [] := List.length_eq_zero_iff.1 h0
      rw [this]; rfl
    · cases e
      refine .inr ⟨b, off, rfl, Nat.lt_of_lt_of_le hlt hg.size, fun j u hu => ?_⟩
      rw [World.cell?_of_block (hg.block b hlt (fun e => hb e))]
      exact hc j u hu
/-- The cells of an interval whose identifiers lie in blocks of this kind. -/
def IvQ (w : World) (Q : Nat → Prop) (x : Pl.Ivl) (cs : List Value) : Prop := ∃ a b c d, cs = ivC x a b c d ∧ VIn w x.lo a c ∧ VIn w x.hi b d ∧ SlQ Q a x.lo.pre.length ∧ SlQ Q b x.hi.pre.length
theorem IvQ.is {w : World} {Q : Nat → Prop} {x : Pl.Ivl} {cs : List Value} (h : IvQ w Q x cs) : IvIs w x cs := by
  obtain ⟨a, b, c, d, h1, h2, h3, _⟩ := h
  exact ⟨a, b, c, d, h1, h2, h3⟩
theorem IvQ.mono {w : World} {Q R : Nat → Prop} {x : Pl.Ivl} {cs : List Value} (h : IvQ w Q x cs) (hQ : ∀ b, Q b → b < w.heap.size → R b) : IvQ w R x cs := by
  obtain ⟨a, b, c, d, h1, h2, h3, h4, h5⟩ := h
  exact ⟨a, b, c, d, h1, h2, h3, (h2.with h4).mono fun b h => hQ b h.1 h.2, (h3.with h5).mono fun b h => hQ b h.1 h.2⟩
theorem IvQ.below {w w' : World} {Q : Nat → Prop} {x : Pl.Ivl} {cs : List Value} (h : IvQ w Q x cs) {B : Nat} (hb : Below B w w') (hB : w.heap.size ≤ B) : IvQ w' Q x cs := by
  obtain ⟨a, b, c, d, h1, h2, h3, h4, h5⟩ := h
  exact ⟨a, b, c, d, h1, h2.below hb hB, h3.below hb hB, h4, h5⟩
theorem IvQ.setNS {w : World} {Q : Nat → Prop} {x : Pl.Ivl} {cs : List Value} (h : IvQ w Q x cs) {p : Addr} {u : Value} (hp : w.cell? p = some u) (hu : ∀ s, u ≠ .string s) (y : Value) : IvQ (w.setCell p y) Q x cs := by
  obtain ⟨a, b, c, d, h1, h2, h3, h4, h5⟩ := h
  exact ⟨a, b, c, d, h1, h2.setNS hp hu y, h3.setNS hp hu y, h4, h5⟩
theorem IvQ.grown {w w' : World} {Q : Nat → Prop} {x : Pl.Ivl} {cs : List Value} {row : Option Nat} (h : IvQ w Q x cs) (hg : w.grownBy w' row) (hQ : ∀ b, Q b → some b ≠ row) : IvQ w' Q x cs := by
  obtain ⟨a, b, c, d, h1, h2, h3, h4, h5⟩ := h
  exact ⟨a, b, c, d, h1, h2.grown hg (h4.mono hQ), h3.grown hg (h5.mono hQ), h4, h5⟩
theorem IvIs.q {w : World} {x : Pl.Ivl} {cs : List Value} (h : IvIs w x cs) : IvQ w (fun b => b < w.heap.size) x cs := by
  obtain ⟨a, b, c, d, h1, h2, h3⟩ := h
  exact ⟨a, b, c, d, h1, h2, h3, h2.at, h3.at⟩
/-- A list of intervals in a row of one's own from B on; the identifiers lie from B0 on, and not in the row. -/
structure ROwn (w : World) (B B0 : Nat) (r : List Pl.Ivl) (v : Value) (n : Nat) : Prop where
  mem : ∃ cs, w.ownsRow B 58 9 v n cs ∧ Elems (IvQ w (fun b => B0 ≤ b ∧ some b ≠ v.ownBlock)) 9 r cs
  len : r.length = n
theorem ROwn.rin {w : World} {B B0 : Nat} {r : List Pl.Ivl} {a : Option Addr} {n c : Nat} (h : ROwn w B B0 r (.slice a n c) n) : RIn w r a c := by
  obtain ⟨cs, h1, h2⟩ := h.mem
  have h3 := Sl.own h1
  rw [← h.len] at h3
  exact ⟨cs, h3, h2.mono fun _ _ h => h.is⟩
theorem ROwn.below {w w' : World} {B B0 : Nat} {r : List Pl.Ivl} {v : Value} {n : Nat} (h : ROwn w B B0 r v n) {D : Nat} (hb : Below D w w') (hD : w.heap.size ≤ D) : ROwn w' B B0 r v n := by
  obtain ⟨cs, h1, h2⟩ := h.mem
  exact ⟨⟨cs, ownsRow_below h1 hb hD, h2.mono fun _ _ h => h.below hb hD⟩, h.len⟩
theorem ROwn.alloc {w : World} {B B0 : Nat} {r : List Pl.Ivl} {v : Value} {n : Nat} (h : ROwn w B B0 r v n) (o : Obj) : ROwn (w.alloc o) B B0 r v n := h.below ((Below.refl _ _).alloc (Nat.le_refl _) _) (Nat.le_refl _)
theorem ROwn.drew {w : World} {B B0 : Nat} {r : List Pl.Ivl} {v : Value} {n : Nat} (h : ROwn w B B0 r v n) : ROwn w.drew B B0 r v n := h.below (Below.refl _ _).drew (Nat.le_refl _)
theorem ROwn.nil (w : World) (B B0 : Nat) : ROwn w B B0 [] (.slice none 0 0) 0 := ⟨⟨[], World.ownsRow_nil _ _ _ _, Elems.nil⟩, rfl⟩
theorem ROwn.base {w : World} {B B' B0 B0' : Nat} {r : List Pl.Ivl} {v : Value} {n : Nat} (h : ROwn w B B0 r v n) (hB : B' ≤ B) (h0 : B0' ≤ B0) : ROwn w B' B0' r v n := by
  obtain ⟨cs, h1, h2⟩ := h.mem
  exact ⟨⟨cs, own_base0 h1 hB, h2.mono fun _ _ h => h.mono fun b hb _ => ⟨by omega, hb.2⟩⟩, h.len⟩
theorem ROwn.far {w : World} {B B0 : Nat} {r : List Pl.Ivl} {v : Value} {n : Nat} (h : ROwn w B B0 r v n) {p : Addr} {u : Value} (ha : p.block < B) (hp : w.cell? p = some u) (hu : ∀ s, u ≠ .string s) (y : Value) : ROwn (w.setCell p y) B B0 r v n := by
  obtain ⟨cs, h1, h2⟩ := h.mem
  exact ⟨⟨cs, ownsRow_far h1 ha y, h2.mono fun _ _ h => h.setNS hp hu y⟩, h.len⟩
theorem ROwn.slice {w : World} {B B0 : Nat} {r : List Pl.Ivl} {v : Value} {n : Nat} (h : ROwn w B B0 r v n) : ∃ oa c, v = .slice oa n c := by
  obtain ⟨cs, h1, _⟩ := h.mem
  exact own_slice h1
/-- One interval more, behind an append. -/
theorem ROwn.app {w w' : World} {B B0 : Nat} {r : List Pl.Ivl} {v v' : Value} {n : Nat} {cs C : List Value} {x : Pl.Ivl} (hl : r.length = n) (h2 : Elems (IvQ w (fun b => B0 ≤ b ∧ some b ≠ v.ownBlock)) 9 r cs)
    (hx : IvQ w (fun b => B0 ≤ b ∧ some b ≠ v.ownBlock) x C) (own : w'.ownsRow B 58 9 v' (n + 1) (cs ++ C)) (hg : w.grownBy w' v.ownBlock) (hv : v'.ownBlock = v.ownBlock ∨ v'.ownBlock = some w.heap.size) :
    ROwn w' B B0 (r ++ [x]) v' (n + 1) := by
  have key : ∀ y c, IvQ w (fun b => B0 ≤ b ∧ some b ≠ v.ownBlock) y c → IvQ w' (fun b => B0 ≤ b ∧ some b ≠ v'.ownBlock) y c := fun y c h => by
    refine IvQ.grown (h.mono (R := fun b => (B0 ≤ b ∧ some b ≠ v'.ownBlock) ∧ some b ≠ v.ownBlock) fun b hb hlt => ⟨⟨hb.1, ?_⟩, hb.2⟩) hg (fun b hb => hb.2) |>.mono fun b hb _ => hb.1
    rcases hv with e | e
    · rw [e]; exact hb.2
    · rw [e]; intro e2; cases e2; omega
  exact ⟨⟨cs ++ C, own, (h2.mono key).append (Elems.one (key _ _ hx) hx.is.len)⟩, by simp [hl]⟩
/-- Behind an append: what lies below the row's base is as it was. -/
theorem grown_below {w w' : World} {B : Nat} {e : TypeId} {size n : Nat} {v : Value} {xs : List Value} (hg : w.grownBy w' v.ownBlock) (hown : w.ownsRow B e size v n xs) (hB : B ≤ w.heap.size) : Below B w w' :=
  (Below.refl B w).grown hg hB fun k hk => (hown.lt k hk).1
/-- A range of one's own is handed back. -/
def RRngO (r : List Pl.Ivl) (w : World) (e : Ending) (w' : World) : Prop := ∃ a n c, e = .returned (.agg #[.slice a n c]) ∧ ROwn w' w.heap.size w.heap.size r (.slice a n c) n ∧ Below w.heap.size w w'
theorem RRngO.rng {r : List Pl.Ivl} {w w' : World} {e : Ending} (h : RRngO r w e w') : RRng r w e w' := by
  obtain ⟨a, n, c, h1, h2, h3⟩ := h
  have := h2.len
  subst this
  exact ⟨a, c, h1, h2.rin, h3⟩
/-- append onto an own row in a region that draws its order: which block the row lies in. -/
theorem wpI_apx {P : Program} {Q : Act → World → Prop} {a : Act} {w : World} {l : List Oper} {i : Nat} {rest : List Nat} {o : Oper} (hi : l[i]? = some o) (hw : Region.wanted o (yielded l.toArray a.tmps) = true) {s x : Operand} {t tx : TypeId}
    (ho : o.op = .call { callee := .builtin .append, args := #[s, x], argTypes := #[t, tx] })
    {e : TypeId} {size bytes : Nat} (T : ElemT P t e size bytes) {B : Nat} {v : Value} {n : Nat} {xs : List Value} (hs : a.eval s = v) (hown : w.ownsRow B e size v n xs)
    {m : Nat} {news : List Value} (hsrc : Src P size tx (a.eval x) m news w) (hbytes : (n + m) * bytes ≤ 140737488355328) (hbase : B ≤ w.heap.size)
    (h : ∀ v' w', w'.ownsRow B e size v' (n + m) (xs ++ news) → w.grownBy w' v.ownBlock → (v'.ownBlock = v.ownBlock ∨ v'.ownBlock = some w.heap.size) → wpI P l.toArray Q rest (a.put o.dst v') w') : wpI P l.toArray Q (i :: rest) a w := by
  obtain ⟨v', w', hr, h2, h3, h4⟩ := run_ap (ty := o.type) T hown hsrc (T.maxLen_of hbytes) hbytes hbase
  refine wpI_stv hi (by rw [ho]; rfl) hw (u := v') (w' := w') ?_ (h v' w' h2 h3 h4)
  unfold execOp
  simp only [ho, resolve, invoke, builtin, Sem.run_bind, Sem.run_pure, Result.andThen_ok, List.map_toArray, List.map_cons, List.map_nil, hs, hr]
end Go.Proofs.YtjfkmbehckdjlaaGreatDoor

end
