/- Texts joined. -/
import Derived.Test.YtolfgcoalihmgaaGreatDoorMKv
import Derived.Test.YtolfgcoalihmgaaGreatDoorMPq
import Derived.Lib.Split
import Derived.Lib.Join
import Derived.Lib.AtoiAll
namespace Go.Proofs.YtolfgcoalihmgaaGreatDoor
section
open Go.RowKit
set_option maxRecDepth 100000 in
theorem Tryz.tIvl : ElemT Tryz.prog 31 101 9 104 := ⟨Tryz.underlying31, ⟨_, _, rfl, rfl, rfl, rfl, rfl⟩, by decide, by decide⟩
def SlQ (Q : Nat → Prop) (a : Option Addr) (n : Nat) : Prop := n = 0 ∨ ∃ b off, a = some ⟨b, off, none⟩ ∧ Q b
theorem SlQ.mono {Q R : Nat → Prop} {a : Option Addr} {n : Nat} (h : SlQ Q a n) (hQ : ∀ b, Q b → R b) : SlQ R a n := h.elim .inl fun ⟨b, off, h1, h2⟩ => .inr ⟨b, off, h1, hQ b h2⟩
theorem VIn.at {w : World} {v : Pl.Ver} {a : Option Addr} {c : Nat} (h : VIn w v a c) : SlQ (fun b => b < w.heap.size) a v.pre.length := by
 rcases h.sl.mem with h0 | ⟨b, off, rfl, hlt, _⟩
 · have : v.pre = [] := by simpa [strVals] using h0
   rw [this]; exact .inl rfl
 · exact .inr ⟨b, off, rfl, hlt⟩
theorem VIn.with {w : World} {v : Pl.Ver} {a : Option Addr} {c : Nat} {Q : Nat → Prop} (h : VIn w v a c) (hq : SlQ Q a v.pre.length) : SlQ (fun b => Q b ∧ b < w.heap.size) a v.pre.length := by
 rcases hq with h0 | ⟨b, off, rfl, hb⟩
 · exact .inl h0
 · rcases h.at with h0 | ⟨b2, off2, e, hb2⟩
   · exact .inl h0
   · cases e; exact .inr ⟨b, off, rfl, hb, hb2⟩
theorem VIn.grown {w w' : World} {v : Pl.Ver} {a : Option Addr} {c : Nat} {row : Option Nat} (h : VIn w v a c) (hg : w.grownBy w' row) (hq : SlQ (fun b => some b ≠ row) a v.pre.length) : VIn w' v a c := by
 refine ⟨⟨h.sl.hl, h.sl.hcap, h.sl.hmax, ?_⟩, h.ss⟩
 rcases h.sl.mem with h0 | ⟨b, off, rfl, hlt, hc⟩
 · exact .inl h0
 · rcases hq with h0 | ⟨b2, off2, e, hb⟩
   · left
     have : v.pre = [] := List.length_eq_zero_iff.1 h0
     rw [this]; rfl
   · cases e
     refine .inr ⟨b, off, rfl, Nat.lt_of_lt_of_le hlt hg.size, fun j u hu => ?_⟩
     rw [World.cell?_of_block (hg.block b hlt (fun e => hb e))]
     exact hc j u hu
def IvQ (w : World) (Q : Nat → Prop) (x : Pl.Ivl) (cs : List Value) : Prop := ∃ a b c d, cs = ivC x a b c d ∧ VIn w x.lo a c ∧ VIn w x.hi b d ∧ SlQ Q a x.lo.pre.length ∧ SlQ Q b x.hi.pre.length
theorem IvQ.is {w : World} {Q : Nat → Prop} {x : Pl.Ivl} {cs : List Value} (h : IvQ w Q x cs) : IvIs w x cs := by
 obtain ⟨a, b, c, d, h1, h2, h3, _⟩ := h
 exact ⟨a, b, c, d, h1, h2, h3⟩
theorem IvQ.mono {w : World} {Q R : Nat → Prop} {x : Pl.Ivl} {cs : List Value} (h : IvQ w Q x cs) (hQ : ∀ b, Q b → b < w.heap.size → R b) : IvQ w R x cs := by
 obtain ⟨a, b, c, d, h1, h2, h3, h4, h5⟩ := h
 exact ⟨a, b, c, d, h1, h2, h3, (h2.with h4).mono fun b h => hQ b h.1 h.2, (h3.with h5).mono fun b h => hQ b h.1 h.2⟩
theorem IvQ.below {w w' : World} {Q : Nat → Prop} {x : Pl.Ivl} {cs : List Value} (h : IvQ w Q x cs) {B : Nat} (hb : Below B w w') (hB : w.heap.size ≤ B) : IvQ w' Q x cs := by
 obtain ⟨a, b, c, d, h1, h2, h3, h4, h5⟩ := h
 exact ⟨a, b, c, d, h1, h2.below hb hB, h3.below hb hB, h4, h5⟩
theorem IvQ.bl {w w' : World} {Q : Nat → Prop} {x : Pl.Ivl} {cs : List Value} (h : IvQ w Q x cs) (hb : Below w.heap.size w w') : IvQ w' Q x cs := h.below hb nle
theorem IvQ.al {w : World} {Q : Nat → Prop} {x : Pl.Ivl} {cs : List Value} (h : IvQ w Q x cs) (o : Obj) : IvQ (w.alloc o) Q x cs := h.below ((Below.refl _ _).alloc nle o) nle
theorem IvQ.setNS {w : World} {Q : Nat → Prop} {x : Pl.Ivl} {cs : List Value} (h : IvQ w Q x cs) {p : Addr} {u : Value} (hp : w.cell? p = some u) (hu : ∀ s, u ≠ .string s) (y : Value) : IvQ (w.setCell p y) Q x cs := by
 obtain ⟨a, b, c, d, h1, h2, h3, h4, h5⟩ := h
 exact ⟨a, b, c, d, h1, h2.setNS hp hu y, h3.setNS hp hu y, h4, h5⟩
theorem IvQ.grown {w w' : World} {Q : Nat → Prop} {x : Pl.Ivl} {cs : List Value} {row : Option Nat} (h : IvQ w Q x cs) (hg : w.grownBy w' row) (hQ : ∀ b, Q b → some b ≠ row) : IvQ w' Q x cs := by
 obtain ⟨a, b, c, d, h1, h2, h3, h4, h5⟩ := h
 exact ⟨a, b, c, d, h1, h2.grown hg (h4.mono hQ), h3.grown hg (h5.mono hQ), h4, h5⟩
theorem IvIs.q {w : World} {x : Pl.Ivl} {cs : List Value} (h : IvIs w x cs) : IvQ w (fun b => b < w.heap.size) x cs := by
 obtain ⟨a, b, c, d, h1, h2, h3⟩ := h
 exact ⟨a, b, c, d, h1, h2, h3, h2.at, h3.at⟩
structure ROwn (w : World) (B B0 : Nat) (r : List Pl.Ivl) (v : Value) (n : Nat) : Prop where
 mem : ∃ cs, w.ownsRow B 101 9 v n cs ∧ Elems (IvQ w (fun b => B0 ≤ b ∧ some b ≠ v.ownBlock)) 9 r cs
 len : r.length = n
theorem ROwn.rin {w : World} {B B0 : Nat} {r : List Pl.Ivl} {a : Option Addr} {n c : Nat} (h : ROwn w B B0 r (.slice a n c) n) : RIn w r a c := by
 obtain ⟨cs, h1, h2⟩ := h.mem
 have h3 := Sl.own h1
 rw [← h.len] at h3
 exact ⟨cs, h3, h2.mono fun _ _ h => h.is⟩
theorem ROwn.below {w w' : World} {B B0 : Nat} {r : List Pl.Ivl} {v : Value} {n : Nat} (h : ROwn w B B0 r v n) {D : Nat} (hb : Below D w w') (hD : w.heap.size ≤ D) : ROwn w' B B0 r v n := by
 obtain ⟨cs, h1, h2⟩ := h.mem
 exact ⟨⟨cs, ownsRow_below h1 hb hD, h2.mono fun _ _ h => h.below hb hD⟩, h.len⟩
theorem ROwn.bl {w w' : World} {B B0 : Nat} {r : List Pl.Ivl} {v : Value} {n : Nat} (h : ROwn w B B0 r v n) (hb : Below w.heap.size w w') : ROwn w' B B0 r v n := h.below hb nle
theorem ROwn.al {w : World} {B B0 : Nat} {r : List Pl.Ivl} {v : Value} {n : Nat} (h : ROwn w B B0 r v n) (o : Obj) : ROwn (w.alloc o) B B0 r v n := h.below ((Below.refl _ _).alloc nle o) nle
theorem ROwn.alloc {w : World} {B B0 : Nat} {r : List Pl.Ivl} {v : Value} {n : Nat} (h : ROwn w B B0 r v n) (o : Obj) : ROwn (w.alloc o) B B0 r v n := h.bl ((Below.refl _ _).alloc nle _)
theorem ROwn.drew {w : World} {B B0 : Nat} {r : List Pl.Ivl} {v : Value} {n : Nat} (h : ROwn w B B0 r v n) : ROwn w.drew B B0 r v n := h.bl (Below.refl _ _).drew
theorem ROwn.nil (w : World) (B B0 : Nat) : ROwn w B B0 [] (.slice none 0 0) 0 := ⟨⟨[], World.ownsRow_nil _ _ _ _, Elems.nil⟩, rfl⟩
theorem ROwn.base {w : World} {B B' B0 B0' : Nat} {r : List Pl.Ivl} {v : Value} {n : Nat} (h : ROwn w B B0 r v n) (hB : B' ≤ B) (h0 : B0' ≤ B0) : ROwn w B' B0' r v n := by
 obtain ⟨cs, h1, h2⟩ := h.mem
 exact ⟨⟨cs, own_base0 h1 hB, h2.mono fun _ _ h => h.mono fun b hb _ => ⟨by omega, hb.2⟩⟩, h.len⟩
theorem ROwn.far {w : World} {B B0 : Nat} {r : List Pl.Ivl} {v : Value} {n : Nat} (h : ROwn w B B0 r v n) {p : Addr} {u : Value} (ha : p.block < B) (hp : w.cell? p = some u) (hu : ∀ s, u ≠ .string s) (y : Value) : ROwn (w.setCell p y) B B0 r v n := by
 obtain ⟨cs, h1, h2⟩ := h.mem
 exact ⟨⟨cs, ownsRow_far h1 ha y, h2.mono fun _ _ h => h.setNS hp hu y⟩, h.len⟩
theorem ROwn.slice {w : World} {B B0 : Nat} {r : List Pl.Ivl} {v : Value} {n : Nat} (h : ROwn w B B0 r v n) : ∃ oa c, v = .slice oa n c := by
 obtain ⟨cs, h1, _⟩ := h.mem
 exact own_slice h1
theorem ROwn.app {w w' : World} {B B0 : Nat} {r : List Pl.Ivl} {v v' : Value} {n : Nat} {cs C : List Value} {x : Pl.Ivl} (hl : r.length = n) (h2 : Elems (IvQ w (fun b => B0 ≤ b ∧ some b ≠ v.ownBlock)) 9 r cs)
 (hx : IvQ w (fun b => B0 ≤ b ∧ some b ≠ v.ownBlock) x C) (own : w'.ownsRow B 101 9 v' (n + 1) (cs ++ C)) (hg : w.grownBy w' v.ownBlock) (hv : v'.ownBlock = v.ownBlock ∨ v'.ownBlock = some w.heap.size) :
 ROwn w' B B0 (r ++ [x]) v' (n + 1) := by
 have key : ∀ y c, IvQ w (fun b => B0 ≤ b ∧ some b ≠ v.ownBlock) y c → IvQ w' (fun b => B0 ≤ b ∧ some b ≠ v'.ownBlock) y c := fun y c h => by
  refine IvQ.grown (h.mono (R := fun b => (B0 ≤ b ∧ some b ≠ v'.ownBlock) ∧ some b ≠ v.ownBlock) fun b hb hlt => ⟨⟨hb.1, ?_⟩, hb.2⟩) hg (fun b hb => hb.2) |>.mono fun b hb _ => hb.1
  rcases hv with e | e
  · rw [e]; exact hb.2
  · rw [e]; intro e2; cases e2; omega
 exact ⟨⟨cs ++ C, own, (h2.mono key).append (Elems.one (key _ _ hx) hx.is.len)⟩, by simp [hl]⟩
theorem grown_below {w w' : World} {B : Nat} {e : TypeId} {size n : Nat} {v : Value} {xs : List Value} (hg : w.grownBy w' v.ownBlock) (hown : w.ownsRow B e size v n xs) (hB : B ≤ w.heap.size) : Below B w w' :=
 (Below.refl B w).grown hg hB fun k hk => (hown.lt k hk).1
def RRngO (r : List Pl.Ivl) (w : World) (e : Ending) (w' : World) : Prop := ∃ a n c, e = .returned (.agg #[.slice a n c]) ∧ ROwn w' w.heap.size w.heap.size r (.slice a n c) n ∧ Below w.heap.size w w'
theorem RRngO.rng {r : List Pl.Ivl} {w w' : World} {e : Ending} (h : RRngO r w e w') : RRng r w e w' := by
 obtain ⟨a, n, c, h1, h2, h3⟩ := h
 have := h2.len
 subst this
 exact ⟨a, c, h1, h2.rin, h3⟩
theorem wpI_apx {P : Program} {Q : Act → World → Prop} {a : Act} {w : World} {l : List Oper} {i : Nat} {rest : List Nat} {o : Oper} (hi : l[i]? = some o) (hw : Region.wanted o (yielded l.toArray a.tmps) = true) {s x : Operand} {t tx : TypeId}
 (ho : o.op = .call { callee := .builtin .append, args := #[s, x], argTypes := #[t, tx] })
 {e : TypeId} {size bytes : Nat} (T : ElemT P t e size bytes) {B : Nat} {v : Value} {n : Nat} {xs : List Value} (hs : a.eval s = v) (hown : w.ownsRow B e size v n xs)
 {m : Nat} {news : List Value} (hsrc : Src P size tx (a.eval x) m news w) (hbytes : (n + m) * bytes ≤ 140737488355328) (hbase : B ≤ w.heap.size)
 (h : ∀ v' w', w'.ownsRow B e size v' (n + m) (xs ++ news) → w.grownBy w' v.ownBlock → (v'.ownBlock = v.ownBlock ∨ v'.ownBlock = some w.heap.size) → wpI P l.toArray Q rest (a.put o.dst v') w') : wpI P l.toArray Q (i :: rest) a w := by
 obtain ⟨v', w', hr, h2, h3, h4⟩ := run_ap (ty := o.type) T hown hsrc (T.maxLen_of hbytes) hbytes hbase
 refine wpI_stv hi (by rw [ho]; rfl) hw (u := v') (w' := w') ?_ (h v' w' h2 h3 h4)
 unfold execOp
 simp only [ho, resolve, invoke, builtin, Sem.run_bind, Sem.run_pure, Result.andThen_ok, List.map_toArray, List.map_cons, List.map_nil, hs, hr]
end
section
namespace Pl
/-! Digits of a number -/
theorem dS_small {n : Nat} (h : n < 10) : Lib.decDigits n = [UInt8.ofNat (48 + n)] := by rw [Lib.decDigits, dif_pos h]
theorem dS_big {n : Nat} (h : ¬ n < 10) : Lib.decDigits n = Lib.decDigits (n / 10) ++ [UInt8.ofNat (48 + n % 10)] := by rw [Lib.decDigits, dif_neg h]
theorem dg_nat {d : Nat} (h : d < 10) : (UInt8.ofNat (48 + d)).toNat = 48 + d := by
 rw [UInt8.toNat_ofNat']; omega
theorem dS_digs (n : Nat) : digsB (Lib.decDigits n) = true := by
 induction n using Nat.strongRecOn with
 | _ n ih =>
   by_cases h : n < 10
   · rw [dS_small h]
     simp only [digsB, List.all_cons, List.all_nil, Bool.and_true]
     exact digB_iff.2 (by rw [dg_nat h]; omega)
   · rw [dS_big h]
     have := ih (n / 10) (by omega)
     unfold digsB at this ⊢
     rw [List.all_append, this]
     simp only [List.all_cons, List.all_nil, Bool.and_true, Bool.true_and]
     exact digB_iff.2 (by rw [dg_nat (Nat.mod_lt _ (by omega))]; omega)
theorem valL_app1 (l : List UInt8) (c : UInt8) : valL (l ++ [c]) = 10 * valL l + ((c.toNat : Int) - 48) := by
 unfold valL; rw [List.foldl_append]; rfl
theorem dS_val (n : Nat) : valL (Lib.decDigits n) = n := by
 induction n using Nat.strongRecOn with
 | _ n ih =>
   by_cases h : n < 10
   · rw [dS_small h]
     show (10 * 0 + (((UInt8.ofNat (48 + n)).toNat : Int) - 48)) = n
     rw [dg_nat h]; omega
   · rw [dS_big h, valL_app1, ih (n / 10) (by omega), dg_nat (Nat.mod_lt _ (by omega))]
     omega
theorem dS_ne (n : Nat) : Lib.decDigits n ≠ [] := by
 by_cases h : n < 10
 · rw [dS_small h]; simp
 · rw [dS_big h]; simp
theorem dS_pos {n : Nat} : 0 < (Lib.decDigits n).length := List.length_pos_iff.2 (dS_ne n)
theorem dS_head (n : Nat) : 0 < n → (Lib.decDigits n).head? ≠ some 48 := by
 induction n using Nat.strongRecOn with
 | _ n ih =>
   intro h0
   by_cases h : n < 10
   · rw [dS_small h]
     simp only [List.head?_cons, ne_eq, Option.some.injEq]
     intro e
     have := congrArg UInt8.toNat e
     rw [dg_nat h] at this
     have e8 : (48 : UInt8).toNat = 48 := rfl
     omega
   · rw [dS_big h]
     have := ih (n / 10) (by omega) (by omega)
     rw [List.head?_append]
     cases hh : (Lib.decDigits (n / 10)).head? with
     | none => exact absurd (List.head?_eq_none_iff.1 hh) (dS_ne _)
     | some c => rw [hh] at this; exact this
theorem dS_len : ∀ (k n : Nat), n < 10 ^ (k + 1) → (Lib.decDigits n).length ≤ k + 1
 | 0, n, h => by rw [dS_small (by simpa using h)]; simp
 | k + 1, n, h => by
   by_cases h10 : n < 10
   · rw [dS_small h10]; simp
   · rw [dS_big h10, List.length_append]
     have := dS_len k (n / 10) (by rw [Nat.pow_succ] at h; omega)
     simp; omega
theorem dS_len10 {n : Nat} (h : n ≤ 1000000000) : (Lib.decDigits n).length ≤ 10 := dS_len 9 n (by omega)
def canonB (l : List UInt8) : Bool := digsB l && decide (0 < l.length) && (decide (l.length ≤ 1) || !(l.head? == some 48))
theorem dS_canon (n : Nat) : canonB (Lib.decDigits n) = true := by
 unfold canonB
 rw [dS_digs, decide_eq_true dS_pos]
 by_cases h : n < 10
 · rw [dS_small h]; rfl
 · have := dS_head n (by omega)
   simp [this]
theorem canon_dS : ∀ (k : Nat) (l : List UInt8), l.length = k + 1 → canonB l = true → Lib.decDigits (valL l).toNat = l
 | 0, l, hl, hc => by
   obtain ⟨c, rfl⟩ := List.length_eq_one_iff.1 hl
   simp only [canonB, digsB, List.all_cons, List.all_nil, Bool.and_true, Bool.and_eq_true] at hc
   have hd := digB_iff.1 hc.1.1
   have e : valL [c] = (c.toNat : Int) - 48 := by show 10 * 0 + ((c.toNat : Int) - 48) = _; omega
   rw [e, dS_small (by omega)]
   congr 1
   rw [← UInt8.toNat_inj, dg_nat (by omega)]
   omega
 | k + 1, l, hl, hc => by
   obtain ⟨m, c, rfl⟩ : ∃ m c, l = m ++ [c] := ⟨l.dropLast, l.getLast (by intro h; rw [h] at hl; simp at hl), (List.dropLast_concat_getLast _).symm⟩
   have hm : m.length = k + 1 := by simpa using hl
   simp only [canonB, Bool.and_eq_true, Bool.or_eq_true, decide_eq_true_eq, Bool.not_eq_true', beq_eq_false_iff_ne] at hc
   obtain ⟨⟨h1, h2⟩, h3⟩ := hc
   have hdm : digsB m = true ∧ digB c = true := by
    unfold digsB at h1 ⊢
    rw [List.all_append] at h1
    simpa using h1
   have hhead : m.head? ≠ some 48 := by
    rcases h3 with h3 | h3
    · rw [hl] at h3; omega
    · rw [List.head?_append] at h3
      cases hh : m.head? with
      | none => simp
      | some d => rw [hh] at h3; exact h3
   have hcm : canonB m = true := by
    simp only [canonB, Bool.and_eq_true, Bool.or_eq_true, decide_eq_true_eq, Bool.not_eq_true', beq_eq_false_iff_ne]
    exact ⟨⟨hdm.1, by omega⟩, .inr hhead⟩
   have ih := canon_dS k m hm hcm
   have hv := valL_bounds hdm.1
   have hd := digB_iff.1 hdm.2
   have hpos : 0 < valL m := by
    cases m with
    | nil => simp at hm
    | cons d m =>
      simp only [digsB, List.all_cons, Bool.and_eq_true] at hdm
      have hd2 := digB_iff.1 hdm.1.1
      have hd3 : d.toNat ≠ 48 := fun e => hhead (by simp [← UInt8.toNat_inj, e])
      have hv2 := valL_bounds (s := m) hdm.1.2
      rw [valL_cons]
      have hp : (0 : Int) < 10 ^ m.length := Int.pow_pos (by omega)
      have := Int.mul_pos (show 0 < (d.toNat : Int) - 48 by omega) hp
      omega
   rw [valL_app1]
   have e1 : (10 * valL m + ((c.toNat : Int) - 48)).toNat / 10 = (valL m).toNat := by omega
   have e2 : (10 * valL m + ((c.toNat : Int) - 48)).toNat % 10 = c.toNat - 48 := by omega
   rw [dS_big (by omega), e1, e2, ih]
   congr 2
   rw [← UInt8.toNat_inj, dg_nat (by omega)]
   omega
/-! Writing -/
def restT (l : List (List UInt8)) : List UInt8 := l.flatMap (46 :: ·)
def preT : List (List UInt8) → List UInt8
 | [] => []
 | x :: l => 45 :: x ++ restT l
def numT (v : Ver) : List UInt8 := digS v.maj ++ 46 :: digS v.min ++ 46 :: digS v.pat
def verT (v : Ver) : List UInt8 := numT v ++ preT (v.pre.map bsl)
theorem idc_dot {l : List UInt8} (h : identB l = true) : (46 : UInt8) ∉ l := fun hm => by
 have := List.all_eq_true.1 (identB_iff.1 h).2.2.1 46 hm
 revert this; decide
theorem digs_no {l : List UInt8} (h : digsB l = true) {c : UInt8} (hc : digB c = false) : c ∉ l := fun hm => by
 have := List.all_eq_true.1 h c hm
 rw [hc] at this; cases this
theorem digS_digs (n : Int) : digsB (digS n) = true := dS_digs _
theorem digS_no46 (n : Int) : (46 : UInt8) ∉ digS n := digs_no (digS_digs n) (by decide)
theorem digS_no45 (n : Int) : (45 : UInt8) ∉ digS n := digs_no (digS_digs n) (by decide)
theorem numT_no45 (v : Ver) : (45 : UInt8) ∉ numT v := by
 unfold numT
 simp [digS_no45]
theorem restT_len (l : List (List UInt8)) (h : ∀ x ∈ l, x.length ≤ 8) : (restT l).length ≤ 9 * l.length := by
 induction l with
 | nil => simp [restT]
 | cons x l ih =>
   have h1 := h x (by simp)
   have h2 := ih (fun y hy => h y (by simp [hy]))
   unfold restT at h2 ⊢
   simp only [List.flatMap_cons, List.length_append, List.length_cons]
   omega
theorem preT_len (l : List (List UInt8)) (h : ∀ x ∈ l, x.length ≤ 8) : (preT l).length ≤ 9 * l.length := by
 cases l with
 | nil => simp [preT]
 | cons x l =>
   have h1 := h x (by simp)
   have h2 := restT_len l (fun y hy => h y (by simp [hy]))
   simp only [preT, List.length_append, List.length_cons]
   omega
theorem verT_len {v : Ver} (h : v.Ok) : (verT v).length ≤ 80 := by
 have h1 := inB_true.1 h.m1
 have h2 := inB_true.1 h.m2
 have h3 := inB_true.1 h.m3
 have l1 := dS_len10 (n := v.maj.toNat) (by omega)
 have l2 := dS_len10 (n := v.min.toNat) (by omega)
 have l3 := dS_len10 (n := v.pat.toNat) (by omega)
 have l4 := preT_len (v.pre.map bsl) (fun x hx => by
  obtain ⟨s, hs, rfl⟩ := List.mem_map.1 hx
  exact (identB_iff.1 (h.i s hs)).2.1)
 have := h.n
 unfold verT numT digS
 simp only [List.length_append, List.length_cons, List.length_map] at l4 ⊢
 omega
/-! Reading, by the reference -/
def notE (x y : Int) (c : UInt8) : Bool := !((c.toNat : Int) == x) && !((c.toNat : Int) == y)
def untilA (x y : Int) (l : List UInt8) : List UInt8 := l.takeWhile (notE x y)
def untilZ (x y : Int) (l : List UInt8) : List UInt8 := l.dropWhile (notE x y)
def numOf (l : List UInt8) : Int := if canonB l = true ∧ l.length ≤ 19 ∧ valL l ≤ 1000000000 then valL l else -1
def preL : Nat → List UInt8 → List (List UInt8)
 | 0, _ => []
 | _ + 1, [] => []
 | f + 1, _ :: r => untilA 46 46 r :: preL f (untilZ 46 46 r)
def mkS (l : List UInt8) : ByteArray := ⟨l.toArray⟩
theorem bsl_mkS (l : List UInt8) : bsl (mkS l) = l := by simp [bsl, mkS]
def refTry (s : List UInt8) : Option Ver :=
 if untilZ 46 46 s = [] then none
 else if untilZ 46 46 ((untilZ 46 46 s).drop 1) = [] then none
 else
  let s2 := (untilZ 46 46 ((untilZ 46 46 s).drop 1)).drop 1
  if (untilZ 45 46 s2).head? = some 46 then none
  else some ⟨numOf (untilA 46 46 s), numOf (untilA 46 46 ((untilZ 46 46 s).drop 1)), numOf (untilA 45 46 s2), (preL (untilZ 45 46 s2).length (untilZ 45 46 s2)).map mkS⟩
def refParse (s : List UInt8) : Option Ver := match refTry s with
 | none => none
 | some v => if (vrF v).1 = 0 then some v else none
theorem until_at {x y : Int} {a b : List UInt8} {c : UInt8} (ha : ∀ d ∈ a, notE x y d = true) (hc : notE x y c = false) : untilA x y (a ++ c :: b) = a ∧ untilZ x y (a ++ c :: b) = c :: b := by
 unfold untilA untilZ
 constructor
 · rw [List.takeWhile_append_of_pos ha, List.takeWhile_cons_of_neg (by simp [hc]), List.append_nil]
 · rw [List.dropWhile_append_of_pos ha, List.dropWhile_cons_of_neg (by simp [hc])]
theorem until_no {x y : Int} {a : List UInt8} (ha : ∀ d ∈ a, notE x y d = true) : untilA x y a = a ∧ untilZ x y a = [] := by
 unfold untilA untilZ
 have h1 := List.takeWhile_append_of_pos (l₂ := []) ha
 have h2 := List.dropWhile_append_of_pos (l₂ := []) ha
 simp only [List.append_nil, List.takeWhile_nil, List.dropWhile_nil] at h1 h2
 exact ⟨h1, h2⟩
theorem notE_46 {d : UInt8} (h : d ≠ 46) : notE 46 46 d = true := by
 have : (d.toNat : Int) ≠ 46 := fun e => h (by rw [← UInt8.toNat_inj]; show _ = 46; omega)
 simp [notE, this]
theorem notE_4546 {d : UInt8} (h : d ≠ 46) (h2 : d ≠ 45) : notE 45 46 d = true := by
 have e1 : (d.toNat : Int) ≠ 46 := fun e => h (by rw [← UInt8.toNat_inj]; show _ = 46; omega)
 have e2 : (d.toNat : Int) ≠ 45 := fun e => h2 (by rw [← UInt8.toNat_inj]; show _ = 45; omega)
 simp [notE, e1, e2]
theorem numOf_digS {n : Int} (h : inB n 0 1000000000 = true) : numOf (digS n) = n := by
 have h1 := inB_true.1 h
 have hl := dS_len10 (n := n.toNat) (by omega)
 have hv : valL (digS n) = n := by unfold digS; rw [dS_val]; omega
 unfold numOf
 rw [hv, if_pos ⟨dS_canon _, by unfold digS; omega, h1.2⟩]
theorem numOf_ok {l : List UInt8} (h : inB (numOf l) 0 1000000000 = true) : digS (numOf l) = l := by
 unfold numOf at h ⊢
 split at h
 · rename_i hc
   rw [if_pos hc]
   have hl : 0 < l.length := by
    have := hc.1
    simp only [canonB, Bool.and_eq_true, decide_eq_true_eq] at this
    exact this.1.2
   exact canon_dS (l.length - 1) l (by omega) hc.1
 · exact absurd h (by decide)
theorem preL_rest : ∀ (l : List (List UInt8)) (f : Nat), (∀ x ∈ l, (46 : UInt8) ∉ x) → (restT l).length ≤ f → preL f (restT l) = l
 | [], f, _, _ => by cases f <;> rfl
 | x :: l, 0, _, hf => by simp [restT] at hf
 | x :: l, f + 1, h, hf => by
   have e : restT (x :: l) = 46 :: (x ++ restT l) := rfl
   have hx : ∀ d ∈ x, notE 46 46 d = true := fun d hd => notE_46 (fun e => h x (by simp) (e ▸ hd))
   rw [e] at hf ⊢
   rw [preL]
   cases l with
   | nil =>
     have e2 : restT ([] : List (List UInt8)) = [] := rfl
     rw [e2, List.append_nil, (until_no hx).1, (until_no hx).2]
     cases f <;> rfl
   | cons y l =>
     have e2 : restT (y :: l) = 46 :: (y ++ restT l) := rfl
     rw [e2, (until_at hx (by decide)).1, (until_at hx (by decide)).2, ← e2, preL_rest (y :: l) f (fun z hz => h z (by simp [hz])) (by simp at hf; omega)]
theorem preL_pre (l : List (List UInt8)) (f : Nat) (h : ∀ x ∈ l, (46 : UInt8) ∉ x) (hf : (preT l).length ≤ f) : preL f (preT l) = l := by
 cases l with
 | nil => cases f <;> rfl
 | cons x l =>
   have e := preL_rest (x :: l) f h (by simpa [preT, restT] using hf)
   have e2 : restT (x :: l) = 46 :: (x ++ restT l) := rfl
   rw [e2] at e
   cases f with
   | zero => simp [preT] at hf
   | succ f => rw [preL] at e; rw [preT, List.cons_append, preL]; exact e
theorem map_mkS (l : List ByteArray) : (l.map bsl).map mkS = l := by
 rw [List.map_map]
 conv => rhs; rw [← List.map_id l]
 exact List.map_congr_left fun s _ => by show mkS (bsl s) = s; simp [mkS, bsl]
theorem ref_verT {v : Ver} (h : v.Ok) : refParse (verT v) = some v := by
 have d1 : ∀ d ∈ digS v.maj, notE 46 46 d = true := fun d hd => notE_46 (fun e => digS_no46 _ (e ▸ hd))
 have d2 : ∀ d ∈ digS v.min, notE 46 46 d = true := fun d hd => notE_46 (fun e => digS_no46 _ (e ▸ hd))
 have d3 : ∀ d ∈ digS v.pat, notE 45 46 d = true := fun d hd => notE_4546 (fun e => digS_no46 _ (e ▸ hd)) (fun e => digS_no45 _ (e ▸ hd))
 have e : verT v = digS v.maj ++ 46 :: (digS v.min ++ 46 :: (digS v.pat ++ preT (v.pre.map bsl))) := by simp [verT, numT]
 have u1 := until_at (b := digS v.min ++ 46 :: (digS v.pat ++ preT (v.pre.map bsl))) d1 (c := 46) (by decide)
 have u2 := until_at (b := digS v.pat ++ preT (v.pre.map bsl)) d2 (c := 46) (by decide)
 have u3 : untilA 45 46 (digS v.pat ++ preT (v.pre.map bsl)) = digS v.pat ∧ untilZ 45 46 (digS v.pat ++ preT (v.pre.map bsl)) = preT (v.pre.map bsl) := by
  cases hp : v.pre.map bsl with
  | nil => rw [preT, List.append_nil]; exact until_no d3
  | cons x l => rw [preT, List.cons_append]; exact until_at d3 (by decide)
 have hh : (preT (v.pre.map bsl)).head? ≠ some 46 := by
  cases hp : v.pre.map bsl with
  | nil => rw [preT]; decide
  | cons x l => rw [preT]; simp
 have hr : refTry (verT v) = some v := by
  unfold refTry
  rw [e, u1.1, u1.2]
  simp only [List.drop_succ_cons, List.drop_zero]
  rw [u2.1, u2.2]
  simp only [List.drop_succ_cons, List.drop_zero]
  rw [u3.1, u3.2, if_neg (by simp), if_neg (by simp), if_neg hh, numOf_digS h.m1, numOf_digS h.m2, numOf_digS h.m3, preL_pre _ _ (fun x hx => by
   obtain ⟨s, hs, rfl⟩ := List.mem_map.1 hx
   exact idc_dot (h.i s hs)) nle, map_mkS]
 unfold refParse
 rw [hr]
 show (if (vrF v).1 = 0 then some v else none) = _
 rw [vrF_ok h]
 rfl
theorem untilZ_head {x y : Int} {l : List UInt8} (h : untilZ x y l ≠ []) : ∃ c r, untilZ x y l = c :: r ∧ notE x y c = false := by
 unfold untilZ at *
 induction l with
 | nil => exact absurd rfl h
 | cons d l ih =>
   by_cases hd : notE x y d = true
   · rw [List.dropWhile_cons_of_pos hd] at h ⊢; exact ih h
   · rw [List.dropWhile_cons_of_neg hd]; exact ⟨d, l, rfl, by simpa using hd⟩
theorem until_app (x y : Int) (l : List UInt8) : untilA x y l ++ untilZ x y l = l := List.takeWhile_append_dropWhile
theorem notE_is46 {c : UInt8} (h : notE 46 46 c = false) : c = 46 := by
 simp only [notE, Bool.and_self, Bool.not_eq_false', beq_iff_eq] at h
 rw [← UInt8.toNat_inj]; show _ = 46; omega
theorem restT_preL : ∀ (f : Nat) (s : List UInt8), s.length ≤ f → (s = [] ∨ s.head? = some 46) → restT (preL f s) = s
 | 0, s, hf, _ => by rw [List.eq_nil_of_length_eq_zero (by omega : s.length = 0)]; rfl
 | f + 1, [], _, _ => rfl
 | f + 1, c :: r, hf, h => by
   obtain rfl : c = 46 := by simpa using h
   have hz : untilZ 46 46 r = [] ∨ (untilZ 46 46 r).head? = some 46 := by
    by_cases h0 : untilZ 46 46 r = []
    · exact .inl h0
    · obtain ⟨c, q, h1, h2⟩ := untilZ_head h0
      rw [h1, notE_is46 h2]; exact .inr rfl
   have hl : (untilZ 46 46 r).length ≤ f := by
    have := congrArg List.length (until_app 46 46 r)
    rw [List.length_append] at this
    simp at hf
    omega
   have ih := restT_preL f _ hl hz
   rw [preL]
   show 46 :: (untilA 46 46 r ++ restT (preL f (untilZ 46 46 r))) = _
   rw [ih, until_app]
theorem preT_preL (f : Nat) (s : List UInt8) (hf : s.length ≤ f) (h : s = [] ∨ s.head? = some 45) : preT (preL f s) = s := by
 cases s with
 | nil => cases f <;> rfl
 | cons c r =>
   obtain rfl : c = 45 := by simpa using h
   cases f with
   | zero => simp at hf
   | succ f =>
     have := restT_preL (f + 1) (46 :: r) hf (.inr rfl)
     rw [preL] at this ⊢
     have e : restT (untilA 46 46 r :: preL f (untilZ 46 46 r)) = 46 :: (untilA 46 46 r ++ restT (preL f (untilZ 46 46 r))) := rfl
     rw [e, List.cons_inj_right] at this
     rw [preT, List.cons_append, this]
theorem ref_sound {s : List UInt8} {v : Ver} (h : refParse s = some v) : v.Ok ∧ verT v = s := by
 unfold refParse at h
 split at h
 · cases h
 · rename_i v' hr
   split at h
   · rename_i hF
     cases h
     have ok : v.Ok := by
      rcases vrF_cases v with ⟨-, ok⟩ | h2
      · exact ok
      · exact absurd hF h2
     refine ⟨ok, ?_⟩
     unfold refTry at hr
     split at hr
     · cases hr
     rename_i n1
     split at hr
     · cases hr
     rename_i n2
     simp only at hr
     split at hr
     · cases hr
     rename_i n3
     injection hr with hr
     obtain ⟨c1, r1, z1, k1⟩ := untilZ_head n1
     obtain ⟨c2, r2, z2, k2⟩ := untilZ_head n2
     have a1 := until_app 46 46 s
     have a2 := until_app 46 46 ((untilZ 46 46 s).drop 1)
     rw [z1] at z2 hr n3 a1 a2
     simp only [List.drop_succ_cons, List.drop_zero] at z2 hr n3 a2
     rw [z2] at hr n3 a2
     simp only [List.drop_succ_cons, List.drop_zero] at hr n3
     have a3 := until_app 45 46 r2
     rw [notE_is46 k1] at a1
     rw [notE_is46 k2] at a2
     have m1 := numOf_ok (l := untilA 46 46 s) (by have := ok.m1; rw [← hr] at this; exact this)
     have m2 := numOf_ok (l := untilA 46 46 r1) (by have := ok.m2; rw [← hr] at this; exact this)
     have m3 := numOf_ok (l := untilA 45 46 r2) (by have := ok.m3; rw [← hr] at this; exact this)
     have hz : untilZ 45 46 r2 = [] ∨ (untilZ 45 46 r2).head? = some 45 := by
      by_cases h0 : untilZ 45 46 r2 = []
      · exact .inl h0
      · obtain ⟨c, q, h1, h2⟩ := untilZ_head h0
        rw [h1] at n3 ⊢
        simp only [notE, Bool.and_eq_false_iff, Bool.not_eq_false', beq_iff_eq] at h2
        rcases h2 with h2 | h2
        · right
          simp only [List.head?_cons, Option.some.injEq]
          rw [← UInt8.toNat_inj]; show _ = 45; omega
        · exfalso; apply n3
          simp only [List.head?_cons, Option.some.injEq]
          rw [← UInt8.toNat_inj]; show _ = 46; omega
     have p := preT_preL _ _ nle hz
     rw [← hr]
     unfold verT numT
     simp only
     rw [m1, m2, m3, List.map_map]
     rw [show (preL (untilZ 45 46 r2).length (untilZ 45 46 r2)).map (bsl ∘ mkS) = preL (untilZ 45 46 r2).length (untilZ 45 46 r2) by
      conv => rhs; rw [← List.map_id (preL _ _)]
      exact List.map_congr_left fun l _ => bsl_mkS l, p]
     rw [List.append_assoc, List.cons_append, a3, List.append_assoc, List.cons_append, a2, a1]
   · cases h
theorem ref_iff {s : List UInt8} {v : Ver} : refParse s = some v ↔ v.Ok ∧ verT v = s :=
 ⟨ref_sound, fun ⟨h1, h2⟩ => h2 ▸ ref_verT h1⟩
end Pl
end
end Go.Proofs.YtolfgcoalihmgaaGreatDoor
