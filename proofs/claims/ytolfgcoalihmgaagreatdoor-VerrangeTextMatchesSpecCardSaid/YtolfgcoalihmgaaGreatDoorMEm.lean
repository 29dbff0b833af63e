/- Texts joined. -/
import Derived.Test.YtolfgcoalihmgaaGreatDoorMKy
import Derived.Test.YtolfgcoalihmgaaGreatDoorMEz
import Derived.Test.YtolfgcoalihmgaaGreatDoorEi
import Derived.Deep.DeepCutAuto
namespace Go.Proofs.YtolfgcoalihmgaaGreatDoor
section
open Go.RowKit
namespace Pl
def joinI (l x : Ivl) : Ivl := if l.un = true then l else if x.un = true ∨ verCmp l.hi x.hi < 0 then ⟨l.lo, x.hi, x.un⟩ else l
theorem joinI_lo (l x : Ivl) : (joinI l x).lo = l.lo := by unfold joinI; split; rfl; split <;> rfl
theorem addL_touch {q : List Ivl} {l x : Ivl} (h : touchB l x = true) : addL (q ++ [l]) x = q ++ [joinI l x] := by
 rw [addL_snoc]
 unfold joinI
 by_cases u : l.un = true
 · rw [if_pos u, if_pos u]
 · rw [if_neg u, if_neg u]
   have h2 : verCmp x.lo l.hi ≤ 0 := by
    unfold touchB at h
    simp only [Bool.or_eq_true, decide_eq_true_eq] at h
    exact h.resolve_left u
   rw [if_neg (vc_nlt h2)]
   split <;> rfl
theorem addL_apart {q : List Ivl} {l x : Ivl} (h : touchB l x = false) : addL (q ++ [l]) x = q ++ [l] ++ [x] := by
 rw [addL_snoc]
 unfold touchB at h
 simp only [Bool.or_eq_false_iff, decide_eq_false_iff_not] at h
 rw [if_neg (by rw [h.1]; decide), if_pos (vc_gt h.2)]
def InsTo (x : Ivl) (r : List Ivl) (k : Nat) (pb : Bool) (l : List Ivl) : Prop := (if pb = true then l ++ r.drop k else l ++ insI x (r.drop k)) = insI x r
theorem InsTo.start (x : Ivl) (r : List Ivl) : InsTo x r 0 false [] := by simp [InsTo]
theorem InsTo.placed {x : Ivl} {r l : List Ivl} {k : Nat} (h : InsTo x r k true l) (hk : k < r.length) : InsTo x r (k + 1) true (l ++ [r[k]]) := by
 unfold InsTo at *
 rw [if_pos rfl] at *
 rw [← h, List.append_assoc, List.singleton_append, ← List.drop_eq_getElem_cons hk]
theorem InsTo.put {x : Ivl} {r l : List Ivl} {k : Nat} (h : InsTo x r k false l) (hk : k < r.length) (hc : verCmp x.lo r[k].lo < 0) : InsTo x r (k + 1) true (l ++ [x] ++ [r[k]]) := by
 unfold InsTo at *
 rw [if_neg (by decide)] at h
 rw [if_pos rfl, ← h, List.drop_eq_getElem_cons hk, insI, if_pos hc]
 simp
theorem InsTo.pass {x : Ivl} {r l : List Ivl} {k : Nat} (h : InsTo x r k false l) (hk : k < r.length) (hc : ¬ verCmp x.lo r[k].lo < 0) : InsTo x r (k + 1) false (l ++ [r[k]]) := by
 unfold InsTo at *
 rw [if_neg (by decide)] at *
 rw [← h, List.drop_eq_getElem_cons hk, insI, if_neg hc]
 simp
theorem InsTo.done {x : Ivl} {r l : List Ivl} {k : Nat} (h : InsTo x r k true l) (hk : r.length ≤ k) : l = insI x r := by
 unfold InsTo at h
 rw [if_pos rfl, List.drop_eq_nil_of_le hk, List.append_nil] at h
 exact h
theorem InsTo.last {x : Ivl} {r l : List Ivl} {k : Nat} (h : InsTo x r k false l) (hk : r.length ≤ k) : l ++ [x] = insI x r := by
 unfold InsTo at h
 rw [if_neg (by decide), List.drop_eq_nil_of_le hk, insI] at h
 exact h
theorem InsTo.len {x : Ivl} {r l : List Ivl} {k : Nat} {pb : Bool} (h : InsTo x r k pb l) : l.length ≤ r.length + 1 := by
 rw [← insI_len x r, ← h]
 split <;> simp
theorem insI_ok {x : Ivl} {r : List Ivl} (hx : x.Ok) (h : ∀ y ∈ r, y.Ok) : ∀ y ∈ insI x r, y.Ok := fun y hy => (insI_mem.1 hy).elim (fun e => e ▸ hx) (h y)
end Pl
def setCs (w : World) (g : Nat) : Nat → List Value → World
 | _, [] => w
 | o, v :: vs => setCs (w.setCell ⟨g, o, none⟩ v) g (o + 1) vs
theorem ownsRow_setCs {B g n cap : Nat} {e : TypeId} : ∀ (cs : List Value) (w : World) (ps qs : List Value) (o : Nat), ps.length = o → qs.length = cs.length → w.ownsRow B e 9 (.slice (some ⟨g, 0, none⟩) n cap) n (ps ++ qs) → (setCs w g o cs).ownsRow B e 9 (.slice (some ⟨g, 0, none⟩) n cap) n (ps ++ cs)
 | [], w, ps, qs, o, hp, hq, h => by
   have : qs = [] := List.length_eq_zero_iff.1 hq
   subst this
   exact h
 | v :: vs, w, ps, qs, o, hp, hq, h => by
   cases qs with
   | nil => cases hq
   | cons q qs =>
     subst hp
     have h2 := ownsRow_set h (j := ps.length) (by simp) v
     rw [show (ps ++ q :: qs).set ps.length v = (ps ++ [v]) ++ qs by rw [List.set_append, if_neg (by omega)]; simp] at h2
     have h3 := ownsRow_setCs vs (w.setCell ⟨g, ps.length, none⟩ v) (ps ++ [v]) qs (ps.length + 1) (by simp) (by simpa using hq) h2
     rw [List.append_assoc, List.singleton_append] at h3
     exact h3
theorem VIn.setCs {g : Nat} {v : Pl.Ver} {a : Option Addr} {c : Nat} : ∀ (cs : List Value) (w : World) (o : Nat), (∀ j, j < cs.length → ∃ u, w.cell? ⟨g, o + j, none⟩ = some u ∧ ∀ s, u ≠ .string s) → VIn w v a c → VIn (setCs w g o cs) v a c
 | [], _, _, _, h => h
 | x :: xs, w, o, hc, h => by
   obtain ⟨u, h1, h2⟩ := hc 0 (by simp)
   refine VIn.setCs xs (w.setCell ⟨g, o, none⟩ x) (o + 1) (fun j hj => ?_) (h.setNS (p := ⟨g, o, none⟩) h1 h2 x)
   obtain ⟨u2, h3, h4⟩ := hc (j + 1) (by simp; omega)
   refine ⟨u2, ?_, h4⟩
   rw [World.cell?_setCell_other _ _ _ _ (by simp), show o + 1 + j = o + (j + 1) by omega]
   exact h3
theorem Below.setCs {B g : Nat} {w0 : World} (hg : B ≤ g) : ∀ (cs : List Value) (w : World) (o : Nat), Below B w0 w → Below B w0 (setCs w g o cs)
 | [], _, _, h => h
 | x :: xs, _w, o, h => Below.setCs hg xs _ (o + 1) (h.setCell (p := ⟨g, o, none⟩) hg x)
theorem size_setCs {g : Nat} : ∀ (cs : List Value) (w : World) (o : Nat), (setCs w g o cs).heap.size = w.heap.size
 | [], _, _ => rfl
 | x :: xs, w, o => by rw [show setCs w g o (x :: xs) = setCs (w.setCell ⟨g, o, none⟩ x) g (o + 1) xs from rfl, size_setCs xs, World.size_setCell]
theorem Bk.setCs {r g : Nat} {ds : List Value} (hne : g ≠ r) : ∀ (cs : List Value) (w : World) (o : Nat), Bk w r ds → Bk (setCs w g o cs) r ds
 | [], _, _, h => h
 | x :: xs, _w, o, h => Bk.setCs hne xs _ (o + 1) (h.far (a := ⟨g, o, none⟩) hne x)
theorem ROwn.setIv {w : World} {B B0 : Nat} {q : List Pl.Ivl} {l y : Pl.Ivl} {g n c : Nat} (h : ROwn w B B0 (q ++ [l]) (.slice (some ⟨g, 0, none⟩) n c) n) {cs : List Value} (hy : IvQ w (fun b => B0 ≤ b ∧ some b ≠ some g) y cs) :
 ROwn (setCs w g ((n - 1) * 9) cs) B B0 (q ++ [y]) (.slice (some ⟨g, 0, none⟩) n c) n := by
 obtain ⟨ds, h1, h2⟩ := h.mem
 have hlen := h.len
 have hqn : q.length = n - 1 := by simp at hlen; omega
 obtain ⟨e1, e2, e3⟩ := set_last h2
 rw [hqn] at e1 e2 e3
 have hps : (ds.take ((n - 1) * 9)).length = (n - 1) * 9 := by rw [e2.len, hqn]
 have hl3 := e3.is.len
 have hl4 := hy.is.len
 rw [e1] at h1
 have o1 := ownsRow_setCs cs w _ _ _ hps (by rw [hl3, hl4]) h1
 have hc : ∀ j, j < cs.length → ∃ u, w.cell? ⟨g, (n - 1) * 9 + j, none⟩ = some u ∧ ∀ s, u ≠ .string s := fun j hj => by
  rw [hl4] at hj
  have hj3 : j < ((ds.drop ((n - 1) * 9)).take 9).length := by rw [hl3]; exact hj
  refine ⟨((ds.drop ((n - 1) * 9)).take 9)[j], ?_, fun s => ?_⟩
  · have := h1.cells (g := g) rfl ((n - 1) * 9 + j) _ (by rw [List.getElem?_append_right (by omega), hps, Nat.add_sub_cancel_left]; exact List.getElem?_eq_getElem hj3)
    rwa [addr_add, Nat.zero_add] at this
  · obtain ⟨a1, b1, c1, d1, e, _⟩ := e3
    have hm := List.getElem_mem hj3
    intro e5
    rw [e5, e] at hm
    simp at hm
 have tr : ∀ v a c, VIn w v a c → VIn (setCs w g ((n - 1) * 9) cs) v a c := fun v a c hv => hv.setCs cs w _ hc
 refine ⟨⟨_, o1, (e2.mono fun x cc hx => ?_).append (Elems.one ?_ hl4)⟩, by simpa using hlen⟩
 · obtain ⟨a3, b3, c3, d3, e, w1, w2, w3, w4⟩ := hx
   exact ⟨a3, b3, c3, d3, e, tr _ _ _ w1, tr _ _ _ w2, w3, w4⟩
 · obtain ⟨a3, b3, c3, d3, e, w1, w2, w3, w4⟩ := hy
   exact ⟨a3, b3, c3, d3, e, tr _ _ _ w1, tr _ _ _ w2, w3, w4⟩
theorem ROwn.grownB {w w' : World} {B B0 : Nat} {r : List Pl.Ivl} {v : Value} {n : Nat} (h : ROwn w B B0 r v n) (hg : w.grownBy w' v.ownBlock) (hB : B ≤ w.heap.size) : Below B w w' := by
 obtain ⟨cs, h1, _⟩ := h.mem
 exact grown_below hg h1 hB
theorem joined_any (Q : Nat → Prop) (x y : Pl.Ivl) (a b a2 b2 : Option Addr) (c d c2 d2 : Nat) (w : World) (h1 : VIn w x.lo a c) (h2 : VIn w x.hi b d) (h3 : VIn w y.lo a2 c2) (h4 : VIn w y.hi b2 d2) (ox : x.Ok) (oy : y.Ok) (q1 : SlQ Q b x.hi.pre.length) (q2 : SlQ Q b2 y.hi.pre.length) :
 Calls Tryz.prog 118 #[ivV x a b c d, ivV y a2 b2 c2 d2] w fun e w' => ∃ b' d', e = .returned (ivV (Pl.joinI x y) a b' c d') ∧ VIn w (Pl.joinI x y).hi b' d' ∧ SlQ Q b' (Pl.joinI x y).hi.pre.length ∧ Below w.heap.size w w' := by
 have o2 := ox.hi
 have o3 := oy.lo
 have o4 := oy.hi
 obtain ⟨lo, hi, un⟩ := x
 obtain ⟨ly, hy, uy⟩ := y
 cases un with
 | true => exact (joined_a lo hi ly hy uy a b a2 b2 c d c2 d2 w h1 h2 h3 h4 o2 o3 o4).mono fun e w' ⟨e1, hb⟩ => ⟨b, d, e1, h2, q1, hb⟩
 | false =>
   cases uy with
   | true =>
     have E : Pl.joinI ⟨lo, hi, false⟩ ⟨ly, hy, true⟩ = ⟨lo, hy, true⟩ := by simp [Pl.joinI]
     rw [E]
     exact (joined_b lo hi ly hy a b a2 b2 c d c2 d2 w h1 h2 h3 h4 o2 o3 o4).mono fun e w' ⟨e1, hb⟩ => ⟨b2, d2, e1, h4, q2, hb⟩
   | false =>
     by_cases hk : Pl.verCmp hi hy < 0
     · have E : Pl.joinI ⟨lo, hi, false⟩ ⟨ly, hy, false⟩ = ⟨lo, hy, false⟩ := by simp [Pl.joinI, hk]
       rw [E]
       exact (joined_c lo hi ly hy a b a2 b2 c d c2 d2 w h1 h2 h3 h4 o2 o3 o4 hk).mono fun e w' ⟨e1, hb⟩ => ⟨b2, d2, e1, h4, q2, hb⟩
     · have E : Pl.joinI ⟨lo, hi, false⟩ ⟨ly, hy, false⟩ = ⟨lo, hi, false⟩ := by simp [Pl.joinI, hk]
       rw [E]
       exact (joined_d lo hi ly hy a b a2 b2 c d c2 d2 w h1 h2 h3 h4 o2 o3 o4 hk).mono fun e w' ⟨e1, hb⟩ => ⟨b, d, e1, h2, q1, hb⟩
end
section
open Go.RowKit
namespace Pl
def comRow (x : Ivl) (t : List Ivl) : List Ivl := t.filterMap fun y => if comOk x y = true then some (comI x y) else none
theorem com_rows (r t : List Ivl) : commonR r t = r.flatMap fun x => comRow x t := rfl
theorem com_succ {r t : List Ivl} {i : Nat} (hi : i < r.length) : commonR (r.take (i + 1)) t = commonR (r.take i) t ++ comRow r[i] t := by
 rw [com_rows, com_rows, List.take_succ_eq_append_getElem hi, List.flatMap_append]; simp
theorem row_succ {x : Ivl} {t : List Ivl} {k : Nat} (hk : k < t.length) : (comOk x t[k] = true → comRow x (t.take (k + 1)) = comRow x (t.take k) ++ [comI x t[k]]) ∧ (comOk x t[k] = false → comRow x (t.take (k + 1)) = comRow x (t.take k)) := by
 unfold comRow
 rw [List.take_succ_eq_append_getElem hk, List.filterMap_append]
 refine ⟨fun h => ?_, fun h => ?_⟩ <;> simp [h]
end Pl
def ComInv (w : World) (a b : Option Addr) (rl c tl d : Nat) (out : List Pl.Ivl) (m : Nat) (wr : World) : Prop :=
 ∃ o n c', (Bk wr w.heap.size [.slice a rl c] ∧ Bk wr (w.heap.size + 1) [.slice b tl d] ∧ Bk wr (w.heap.size + 1 + 1) [.slice none 0 0] ∧ Bk wr (w.heap.size + 1 + 1 + 1) [.slice o n c']) ∧ ROwn wr (w.heap.size + 4) 0 out (.slice o n c') n ∧ Below w.heap.size w wr ∧ n ≤ m ∧ w.heap.size + 4 ≤ wr.heap.size
def ComCut (w wv : World) (x y : Pl.Ivl) (p ok : Value) (wx : World) : Prop :=
 ∃ g A B C D, p = .pointer (some ⟨g, 0, none⟩) ∧ ok = .bool (Pl.comOk x y) ∧ Bk wx g (ivC (Pl.comI x y) A B C D) ∧ VIn wx (Pl.comI x y).lo A C ∧ VIn wx (Pl.comI x y).hi B D ∧ SlQ (fun b => b < w.heap.size) A (Pl.comI x y).lo.pre.length ∧ SlQ (fun b => b < w.heap.size) B (Pl.comI x y).hi.pre.length ∧ Below wv.heap.size wv wx
set_option maxRecDepth 100000 in
set_option maxHeartbeats 16000000 in
theorem RangeCommon_any (r t : List Pl.Ivl) (a b : Option Addr) (c d : Nat) (w : World) (h1 : RIn w r a c) (h2 : RIn w t b d) (okr : ∀ x ∈ r, x.Ok) (okt : ∀ x ∈ t, x.Ok) (hn : r.length * t.length ≤ 1000000) :
 Calls Tryz.prog 28 #[.agg #[.slice a r.length c], .agg #[.slice b t.length d]] w (RRng (Pl.commonR r t) w) := by
 have H := Hd h1
 have K := Hd h2
 have OK1 := Hd okr
 have OK2 := Hd okt
 have hl1 := h1.len
 have hl2 := h2.len
 clear h1 h2 okr okt
 go_enter Tryz.func28, Tryz.ntmps28
 have B0 := brl w
 go_wp2_with fail
 have X := ((((Bk.new (r := w.heap.size) (cs := [.slice a r.length c]) w 33 (by simp)).alloc (.cells #[.slice b t.length d] 33)).alloc (.cells #[.slice none 0 0] 33)).alloc (.cells #[.slice none 0 0] 33))
 have Y := (((Bk.new (r := w.heap.size + 1) (cs := [.slice b t.length d]) (w.alloc (.cells #[.slice a r.length c] 33)) 33 (by simp)).alloc (.cells #[.slice none 0 0] 33)).alloc (.cells #[.slice none 0 0] 33))
 have R := ((Bk.new (r := w.heap.size + 1 + 1) (cs := [.slice none 0 0]) ((w.alloc (.cells #[.slice a r.length c] 33)).alloc (.cells #[.slice b t.length d] 33)) 33 (by simp)).alloc (.cells #[.slice none 0 0] 33))
 have O := (Bk.new (r := w.heap.size + 1 + 1 + 1) (cs := [.slice none 0 0]) (((w.alloc (.cells #[.slice a r.length c] 33)).alloc (.cells #[.slice b t.length d] 33)).alloc (.cells #[.slice none 0 0] 33)) 33 (by simp))
 generalize hW : ((((w.alloc (.cells #[.slice a r.length c] 33)).alloc (.cells #[.slice b t.length d] 33)).alloc (.cells #[.slice none 0 0] 33)).alloc (.cells #[.slice none 0 0] 33)) = w1 at *
 have B1 : Below w.heap.size w w1 := by rw [← hW]; go_grown
 have q1 : w.heap.size + 4 ≤ w1.heap.size := by rw [← hW]; go_size
 clear hW
 have s1 := B1.size
 have ⟨Xc, Xf, Xl⟩ := X
 have ⟨Yc, Yf, Yl⟩ := Y
 have ⟨Rc, Rf, Rl⟩ := R
 have ⟨Oc, Of, Ol⟩ := O
 clear Xc Xf Xl Yc Yf Yl Rc Rf Rl Oc Of Ol
 go_loopw [6] (fun iv wr => ∃ i : Nat, i ≤ r.length ∧ iv = .int .i64 i ∧ ComInv w a b r.length c t.length d (Pl.commonR (r.take i) t) (i * t.length) wr) (fun iv _ => r.length - (intOf iv).toNat)
 case atStart => exact ⟨0, Nat.zero_le _, rfl, none, 0, 0, ⟨X, Y, R, O⟩, ROwn.nil _ _ _, B1, Nat.zero_le _, by omega⟩
 case round =>
  obtain ⟨i, hi, rfl, hinv⟩ := hrel
  clear X Y R O B0 B1 q1 s1
  obtain ⟨o, n, c', ⟨X, Y, R, O⟩, OW, B1, hnm, q0⟩ := hinv
  by_cases hlt1 : i < r.length
  · have t5 : decide ((i : Int) < (r.length : Int)) = true := decT (by omega)
    obtain ⟨bb, off, rfl, hltb, hat⟩ := H.out.at (by omega)
    obtain ⟨a1, b1, c1, d1, I0⟩ := hat i hlt1
    have HI := Hd I0
    have QA := Hd I0.lo.at
    have QB := Hd I0.hi.at
    have OX := Hd (OK1.out _ (List.getElem_mem hlt1))
    have SR := Hd (Pl.com_succ (t := t) hlt1)
    have hmul : (i + 1) * t.length = i * t.length + t.length := Nat.succ_mul _ _
    have hmul2 : (i + 1) * t.length ≤ r.length * t.length := Nat.mul_le_mul_right _ hlt1
    clear hat I0
    generalize r[i] = x at *
    generalize Pl.commonR (r.take i) t = out0 at *
    generalize i * t.length = m0 at *
    have OW0 : ROwn wr (w.heap.size + 4) 0 (out0 ++ Pl.comRow x (t.take 0)) (.slice o n c') n := by simpa [Pl.comRow] using OW
    have ⟨Xc, Xf, Xl⟩ := X
    have ⟨Yc, Yf, Yl⟩ := Y
    have ⟨Oc, Of, Ol⟩ := O
    go_wp2_with fail
    go_loopw [7] (fun kv wv => ∃ k : Nat, k ≤ t.length ∧ kv = .int .i64 k ∧ ComInv w (some ⟨bb, off, none⟩) b r.length c t.length d (out0 ++ Pl.comRow x (t.take k)) (m0 + k) wv) (fun kv _ => t.length - (intOf kv).toNat)
    case atStart => exact ⟨0, Nat.zero_le _, rfl, o, n, c', ⟨X, Y, R, O⟩, OW0, B1, by omega, q0⟩
    case round =>
     obtain ⟨k, hk, rfl, hinv⟩ := hrel
     clear Xc Xf Xl Yc Yf Yl Oc Of Ol OW0 X Y R O OW B1 hnm q0
     clear c' n o
     obtain ⟨o, n, c', ⟨X, Y, R, O⟩, OW, B1, hnm, q0⟩ := hinv
     have ⟨Xc, Xf, Xl⟩ := X
     have ⟨Yc, Yf, Yl⟩ := Y
     have ⟨Oc, Of, Ol⟩ := O
     by_cases hlt2 : k < t.length
     · have t6 : decide ((k : Int) < (t.length : Int)) = true := decT (by omega)
       obtain ⟨bc, off2, rfl, hltc, hat⟩ := K.out.at (by omega)
       obtain ⟨a2, b2, c2, d2, I0⟩ := hat k hlt2
       have HJ := Hd I0
       have QC := Hd I0.lo.at
       have QD := Hd I0.hi.at
       have OY := Hd (OK2.out _ (List.getElem_mem hlt2))
       have ST := Hd (Pl.row_succ (x := x) hlt2)
       clear hat I0
       generalize t[k] = y at *
       generalize Pl.comRow x (t.take k) = row at *
       go_upto_region 8 with fail
       go_cut [8, 9] (fun p ok wx => ComCut w wr x y p ok wx)
       case first =>
        refine wp_region_two (fun j _ => j ∈ [15]) [0, 1, 2, 3, 4, 5, 6, 7, 8, 9] 10 [11, 12, 13, 14, 15, 16] 14 [10, 11, 12, 13, 15, 16] (by kernel_rfl) (by kernel_rfl) ?_
        have BD : Below wr.heap.size wr wr.drew := (Below.refl _ _).drew
        have B2 : Below w.heap.size w wr.drew := bcall B1 BD (by omega)
        replace X := X.drew
        replace Y := Y.drew
        replace O := O.drew
        clear Xc Xf Xl Yc Yf Yl Oc Of Ol
        generalize wr.drew = w2 at *
        have q2 := BD.size
        have ⟨Xc, Xf, Xl⟩ := X
        have ⟨Yc, Yf, Yl⟩ := Y
        obtain ⟨e0, e1, e2, e3, e4, e5, e6, e7, e8, VA, VB⟩ := HI.out.below B2 hltb nle
        obtain ⟨f0, f1, f2, f3, f4, f5, f6, f7, f8, VC, VD⟩ := HJ.out.below B2 hltc nle
        have CC := Hd (fun (W : World) (hb : Below w2.heap.size w2 W) => common_any (fun b => b < w.heap.size) x y a1 b1 a2 b2 c1 d1 c2 d2 W (VA.bl hb) (VB.bl hb) (VC.bl hb) (VD.bl hb) OX.out OY.out QA.out QB.out QC.out QD.out)
        clear VA VB VC VD
        repeat (first | (refine wpR_pure rfl rfl ?_; go_big_quiet_step (fail); refine wpQuiet_nil ?_) | (refine wpR_rd [15] (fun _ _ h => h) (by kernel_rfl) rfl rfl ?_; go_big_quiet_step (fail); refine wpQuiet_nil ?_))
        try simp only [pts]
        clear Xc Xf Xl Yc Yf Yl e0 e1 e2 e3 e4 e5 e6 e7 e8 f0 f1 f2 f3 f4 f5 f6 f7 f8
        refine wpR_nil ⟨?_, ?_⟩
        · refine wpR_call (f := 76) rfl rfl rfl (by simp [go_sem]; rfl) ?_
          refine (CC.out _ (Below.refl _ _)).mono ?_
          rintro e w3 ⟨A, B, C, D, rfl, VA, VB, Q1, Q2, hb⟩
          refine ⟨_, rfl, hb, ?_⟩
          replace VA := VA.bl hb
          replace VB := VB.bl hb
          have B3 : Below wr.heap.size wr w3 := bcall BD hb (by omega)
          have q3 := hb.size
          clear hb CC
          try simp only [pts]
          repeat (refine wpR_pure rfl rfl ?_; go_big_quiet_step (fail); refine wpQuiet_nil ?_)
          try simp only [pts]
          refine wpR_add rfl rfl rfl (u := .pointer (some ⟨w3.heap.size, 0, none⟩)) (w' := w3.alloc (.cells #[.int .i64 0, .int .i64 0, .int .i64 0, .slice none 0 0, .int .i64 0, .int .i64 0, .int .i64 0, .slice none 0 0, .bool false] 101)) (by simp [go_sem]) (Below.ext ((Below.refl _ _).alloc nle _)) ?_
          try simp only [pts]
          have Z := Bk.new (r := w3.heap.size) (cs := [.int .i64 0, .int .i64 0, .int .i64 0, .slice none 0 0, .int .i64 0, .int .i64 0, .int .i64 0, .slice none 0 0, .bool false]) w3 101 rfl
          have VA3 := VA.below (w' := w3.alloc (.cells #[.int .i64 0, .int .i64 0, .int .i64 0, .slice none 0 0, .int .i64 0, .int .i64 0, .int .i64 0, .slice none 0 0, .bool false] 101)) ((Below.refl _ _).alloc nle _) nle
          have VB3 := VB.below (w' := w3.alloc (.cells #[.int .i64 0, .int .i64 0, .int .i64 0, .slice none 0 0, .int .i64 0, .int .i64 0, .int .i64 0, .slice none 0 0, .bool false] 101)) ((Below.refl _ _).alloc nle _) nle
          have B4 : Below wr.heap.size wr (w3.alloc (.cells #[.int .i64 0, .int .i64 0, .int .i64 0, .slice none 0 0, .int .i64 0, .int .i64 0, .int .i64 0, .slice none 0 0, .bool false] 101)) := by go_grown
          clear VA VB
          generalize w3.alloc (.cells #[.int .i64 0, .int .i64 0, .int .i64 0, .slice none 0 0, .int .i64 0, .int .i64 0, .int .i64 0, .slice none 0 0, .bool false] 101) = w4 at *
          have ⟨Zc, Zf, Zl⟩ := Z
          refine wpR_st rfl rfl rfl (w' := (((((((((w4.setCell ⟨w3.heap.size, 0, none⟩ (.int .i64 (Pl.comI x y).lo.maj)).setCell ⟨w3.heap.size, 1, none⟩ (.int .i64 (Pl.comI x y).lo.min)).setCell ⟨w3.heap.size, 2, none⟩ (.int .i64 (Pl.comI x y).lo.pat)).setCell ⟨w3.heap.size, 3, none⟩ (.slice A (Pl.comI x y).lo.pre.length C)).setCell ⟨w3.heap.size, 4, none⟩ (.int .i64 (Pl.comI x y).hi.maj)).setCell ⟨w3.heap.size, 5, none⟩ (.int .i64 (Pl.comI x y).hi.min)).setCell ⟨w3.heap.size, 6, none⟩ (.int .i64 (Pl.comI x y).hi.pat)).setCell ⟨w3.heap.size, 7, none⟩ (.slice B (Pl.comI x y).hi.pre.length D)).setCell ⟨w3.heap.size, 8, none⟩ (.bool (Pl.comI x y).un))) (by simp [go_sem, Zc, Zf]) ((((((((((ExtD.refl _ _).s1).s1).s1).s1).s1).s1).s1).s1).s1) ?_
          try simp only [pts]
          repeat (refine wpR_pure rfl rfl ?_; go_big_quiet_step (fail); refine wpQuiet_nil ?_)
          try simp only [pts]
          refine wpR_nil ?_
          try simp only [pts]
          go_wp2_with fail
          go_meet
          exact ⟨w3.heap.size, A, B, C, D, rfl, rfl, (((((((((Z.st 0 (.int .i64 (Pl.comI x y).lo.maj)).st 1 (.int .i64 (Pl.comI x y).lo.min)).st 2 (.int .i64 (Pl.comI x y).lo.pat)).st 3 (.slice A (Pl.comI x y).lo.pre.length C)).st 4 (.int .i64 (Pl.comI x y).hi.maj)).st 5 (.int .i64 (Pl.comI x y).hi.min)).st 6 (.int .i64 (Pl.comI x y).hi.pat)).st 7 (.slice B (Pl.comI x y).hi.pre.length D)).st 8 (.bool (Pl.comI x y).un)), (VIn.sets [(0, .int .i64 (Pl.comI x y).lo.maj), (1, .int .i64 (Pl.comI x y).lo.min), (2, .int .i64 (Pl.comI x y).lo.pat), (3, .slice A (Pl.comI x y).lo.pre.length C), (4, .int .i64 (Pl.comI x y).hi.maj), (5, .int .i64 (Pl.comI x y).hi.min), (6, .int .i64 (Pl.comI x y).hi.pat), (7, .slice B (Pl.comI x y).hi.pre.length D), (8, .bool (Pl.comI x y).un)] VA3 Z), (VIn.sets [(0, .int .i64 (Pl.comI x y).lo.maj), (1, .int .i64 (Pl.comI x y).lo.min), (2, .int .i64 (Pl.comI x y).lo.pat), (3, .slice A (Pl.comI x y).lo.pre.length C), (4, .int .i64 (Pl.comI x y).hi.maj), (5, .int .i64 (Pl.comI x y).hi.min), (6, .int .i64 (Pl.comI x y).hi.pat), (7, .slice B (Pl.comI x y).hi.pre.length D), (8, .bool (Pl.comI x y).un)] VB3 Z), Q1, Q2, by go_grown⟩
        · refine wpR_add rfl rfl rfl (u := .pointer (some ⟨w2.heap.size, 0, none⟩)) (w' := w2.alloc (.cells #[.int .i64 0, .int .i64 0, .int .i64 0, .slice none 0 0, .int .i64 0, .int .i64 0, .int .i64 0, .slice none 0 0, .bool false] 101)) (by simp [go_sem]) (Below.ext ((Below.refl _ _).alloc nle _)) ?_
          try simp only [pts]
          have Z := Bk.new (r := w2.heap.size) (cs := [.int .i64 0, .int .i64 0, .int .i64 0, .slice none 0 0, .int .i64 0, .int .i64 0, .int .i64 0, .slice none 0 0, .bool false]) w2 101 rfl
          have BA : Below w2.heap.size w2 (w2.alloc (.cells #[.int .i64 0, .int .i64 0, .int .i64 0, .slice none 0 0, .int .i64 0, .int .i64 0, .int .i64 0, .slice none 0 0, .bool false] 101)) := by go_grown
          generalize w2.alloc (.cells #[.int .i64 0, .int .i64 0, .int .i64 0, .slice none 0 0, .int .i64 0, .int .i64 0, .int .i64 0, .slice none 0 0, .bool false] 101) = w3 at *
          refine wpR_call (f := 76) rfl rfl rfl (by simp [go_sem]; rfl) ?_
          refine (CC.out _ BA).mono ?_
          rintro e w4 ⟨A, B, C, D, rfl, VA, VB, Q1, Q2, hb⟩
          refine ⟨_, rfl, hb, ?_⟩
          have VA3 := VA.bl hb
          have VB3 := VB.bl hb
          have q3 := BA.size
          have B4 : Below wr.heap.size wr w4 := bcall (bcall BD BA (by omega)) hb (by omega)
          replace Z := Z.below hb Z.lt
          clear hb CC VA VB BA
          try simp only [pts]
          repeat (refine wpR_pure rfl rfl ?_; go_big_quiet_step (fail); refine wpQuiet_nil ?_)
          try simp only [pts]
          have ⟨Zc, Zf, Zl⟩ := Z
          refine wpR_st rfl rfl rfl (w' := (((((((((w4.setCell ⟨w2.heap.size, 0, none⟩ (.int .i64 (Pl.comI x y).lo.maj)).setCell ⟨w2.heap.size, 1, none⟩ (.int .i64 (Pl.comI x y).lo.min)).setCell ⟨w2.heap.size, 2, none⟩ (.int .i64 (Pl.comI x y).lo.pat)).setCell ⟨w2.heap.size, 3, none⟩ (.slice A (Pl.comI x y).lo.pre.length C)).setCell ⟨w2.heap.size, 4, none⟩ (.int .i64 (Pl.comI x y).hi.maj)).setCell ⟨w2.heap.size, 5, none⟩ (.int .i64 (Pl.comI x y).hi.min)).setCell ⟨w2.heap.size, 6, none⟩ (.int .i64 (Pl.comI x y).hi.pat)).setCell ⟨w2.heap.size, 7, none⟩ (.slice B (Pl.comI x y).hi.pre.length D)).setCell ⟨w2.heap.size, 8, none⟩ (.bool (Pl.comI x y).un))) (by simp [go_sem, Zc, Zf]) ((((((((((ExtD.refl _ _).s1).s1).s1).s1).s1).s1).s1).s1).s1) ?_
          try simp only [pts]
          repeat (refine wpR_pure rfl rfl ?_; go_big_quiet_step (fail); refine wpQuiet_nil ?_)
          try simp only [pts]
          refine wpR_nil ?_
          try simp only [pts]
          go_wp2_with fail
          go_meet
          exact ⟨w2.heap.size, A, B, C, D, rfl, rfl, (((((((((Z.st 0 (.int .i64 (Pl.comI x y).lo.maj)).st 1 (.int .i64 (Pl.comI x y).lo.min)).st 2 (.int .i64 (Pl.comI x y).lo.pat)).st 3 (.slice A (Pl.comI x y).lo.pre.length C)).st 4 (.int .i64 (Pl.comI x y).hi.maj)).st 5 (.int .i64 (Pl.comI x y).hi.min)).st 6 (.int .i64 (Pl.comI x y).hi.pat)).st 7 (.slice B (Pl.comI x y).hi.pre.length D)).st 8 (.bool (Pl.comI x y).un)), (VIn.sets [(0, .int .i64 (Pl.comI x y).lo.maj), (1, .int .i64 (Pl.comI x y).lo.min), (2, .int .i64 (Pl.comI x y).lo.pat), (3, .slice A (Pl.comI x y).lo.pre.length C), (4, .int .i64 (Pl.comI x y).hi.maj), (5, .int .i64 (Pl.comI x y).hi.min), (6, .int .i64 (Pl.comI x y).hi.pat), (7, .slice B (Pl.comI x y).hi.pre.length D), (8, .bool (Pl.comI x y).un)] VA3 Z), (VIn.sets [(0, .int .i64 (Pl.comI x y).lo.maj), (1, .int .i64 (Pl.comI x y).lo.min), (2, .int .i64 (Pl.comI x y).lo.pat), (3, .slice A (Pl.comI x y).lo.pre.length C), (4, .int .i64 (Pl.comI x y).hi.maj), (5, .int .i64 (Pl.comI x y).hi.min), (6, .int .i64 (Pl.comI x y).hi.pat), (7, .slice B (Pl.comI x y).hi.pre.length D), (8, .bool (Pl.comI x y).un)] VB3 Z), Q1, Q2, by go_grown⟩
       case rest =>
        obtain ⟨g, A, B, C, D, rfl, rfl, Z, VA, VB, Q1, Q2, BW⟩ := hcut
        have B2 : Below w.heap.size w wc := bcall B1 BW (by omega)
        replace X := X.below BW (by omega)
        replace Y := Y.below BW (by omega)
        replace R := R.below BW (by omega)
        replace O := O.below BW (by omega)
        replace OW := OW.bl BW
        have q1 := BW.size
        clear Xc Xf Xl Yc Yf Yl Oc Of Ol
        have ⟨Oc, Of, Ol⟩ := O
        have ⟨Zc, Zf, Zl⟩ := Z
        obtain ⟨okb, hok⟩ : ∃ okb, Pl.comOk x y = okb := ⟨_, rfl⟩
        rw [hok] at ST ⊢
        clear hok
        generalize Pl.comI x y = j at *
        cases okb with
        | true =>
          have E := Hd (ST.out.1 rfl)
          clear ST
          have QY : IvQ wc (fun b => 0 ≤ b ∧ some b ≠ (Value.slice o n c').ownBlock) j [.int .i64 j.lo.maj, .int .i64 j.lo.min, .int .i64 j.lo.pat, .slice A j.lo.pre.length C, .int .i64 j.hi.maj, .int .i64 j.hi.min, .int .i64 j.hi.pat, .slice B j.hi.pre.length D, .bool j.un] := ⟨A, B, C, D, rfl, VA, VB, SlQ.off OW rfl (by omega) Q1, SlQ.off OW rfl (by omega) Q2⟩
          go_wp2_with (at_builtin; go_loud (refine ap1r (by rfl) (by rfl) (by rfl) OW (c := 1) (C := [.int .i64 j.lo.maj, .int .i64 j.lo.min, .int .i64 j.lo.pat, .slice A j.lo.pre.length C, .int .i64 j.hi.maj, .int .i64 j.hi.min, .int .i64 j.hi.pat, .slice B j.hi.pre.length D, .bool j.un]) (by rfl) QY (by omega) (by omega) ?_); intro v7 w7 NEW hg7 hb7 hs7; replace X := X.below hb7 (by omega); replace Y := Y.below hb7 (by omega); replace R := R.below hb7 (by omega); replace O := O.below hb7 (by omega); have B7 : Below w.heap.size w w7 := bcall B2 hb7 (by omega); obtain ⟨o7, c7, rfl⟩ := NEW.slice; clear hg7 hb7 OW QY Z Zc Zf Zl Oc Of Ol VA VB; obtain ⟨Oc, Of, Ol⟩ := id O)
          go_roundw
          case rel => exact ⟨k + 1, hlt2, by go_num, o7, n + 1, c7, ⟨X.fr (w.heap.size + 1 + 1 + 1) 0 (by omega) _, Y.fr (w.heap.size + 1 + 1 + 1) 0 (by omega) _, R.fr (w.heap.size + 1 + 1 + 1) 0 (by omega) _, O.st 0 _⟩, by rw [E.out, ← List.append_assoc]; exact NEW.far (by dsimp only; omega) (O.c 0) (by nofun) _, by go_grown, by omega, by first | omega | (simp; omega) | simp⟩
          case measure => simp [intOf]; omega
        | false =>
          have E := Hd (ST.out.2 rfl)
          clear ST
          go_wp2_with fail
          go_roundw
          case rel => exact ⟨k + 1, hlt2, by go_num, o, n, c', ⟨X, Y, R, O⟩, by rw [E.out]; exact OW, B2, by omega, by omega⟩
          case measure => simp [intOf]; omega
     · have t6 : decide ((k : Int) < (t.length : Int)) = false := decF (by omega)
       rw [List.take_of_length_le (by omega), ← SR.out] at OW
       go_wp2_with fail
       go_roundw
       case rel => exact ⟨i + 1, hlt1, by go_num, o, n, c', ⟨X, Y, R, O⟩, OW, B1, by omega, q0⟩
       case measure => simp [intOf]; omega
  · have t5 : decide ((i : Int) < (r.length : Int)) = false := decF (by omega)
    rw [List.take_of_length_le (by omega)] at OW
    have ⟨Xc, Xf, Xl⟩ := X
    have ⟨Rc, Rf, Rl⟩ := R
    have ⟨Oc, Of, Ol⟩ := O
    go_wp2_with fail
    have RN := R.st 0 (.slice o n c')
    obtain ⟨RNc, RNf, RNl⟩ := RN
    have hol := OW.len
    refine bodyPost_ret (v := .agg #[.slice o n c']) (by simp [results, Tryz.results28, go_sem, RNc]) rfl ⟨o, c', by rw [hol], (OW.far (p := ⟨w.heap.size + 1 + 1, 0, none⟩) (by dsimp only; omega) (R.c 0) (by nofun) _).rin, by go_grown⟩
end
end Go.Proofs.YtolfgcoalihmgaaGreatDoor
