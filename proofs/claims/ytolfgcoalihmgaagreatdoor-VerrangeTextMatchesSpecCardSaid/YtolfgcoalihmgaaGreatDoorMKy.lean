/- Texts joined. -/
import Derived.Test.YtolfgcoalihmgaaGreatDoorEc
import Derived.Test.YtolfgcoalihmgaaGreatDoorDg
import Derived.Test.YtolfgcoalihmgaaGreatDoorDh
import Derived.Test.YtolfgcoalihmgaaGreatDoorMKn
namespace Go.Proofs.YtolfgcoalihmgaaGreatDoor
section
open Go.RowKit
set_option maxHeartbeats 2000000 in
theorem upwards_any (v : Pl.Ver) (a : Option Addr) (c : Nat) (w : World) (h : VIn w v a c) :
 Calls Tryz.prog 122 #[verV v a c] w (RRng (Pl.upR v) w) := by
 have H := Hd h
 clear h
 go_enter Tryz.func122, Tryz.ntmps122
 have B0 := brl w
 go_wp2_with fail
 have L := Bk.new (r := w.heap.size + 1 + 1) (cs := [.int .i64 v.maj, .int .i64 v.min, .int .i64 v.pat, .slice a v.pre.length c, .int .i64 0, .int .i64 0, .int .i64 0, .slice none 0 0, .bool true]) ((w.alloc (.cells #[.int .i64 v.maj, .int .i64 v.min, .int .i64 v.pat, .slice a v.pre.length c] 24)).alloc (.cells #[.slice (some ⟨w.heap.size + 1 + 1, 0, none⟩) 1 1] 33)) 101 (by simp)
 have R := (Bk.new (r := w.heap.size + 1) (cs := [.slice (some ⟨w.heap.size + 1 + 1, 0, none⟩) 1 1]) (w.alloc (.cells #[.int .i64 v.maj, .int .i64 v.min, .int .i64 v.pat, .slice a v.pre.length c] 24)) 33 (by simp)).alloc (.cells #[.int .i64 v.maj, .int .i64 v.min, .int .i64 v.pat, .slice a v.pre.length c, .int .i64 0, .int .i64 0, .int .i64 0, .slice none 0 0, .bool true] 101)
 obtain ⟨Rc, Rf, Rl⟩ := R
 refine bodyPost_ret (v := .agg #[.slice (some ⟨w.heap.size + 1 + 1, 0, none⟩) 1 1]) (by simp [results, Tryz.results122, go_sem, Rc]) rfl ⟨some ⟨w.heap.size + 1 + 1, 0, none⟩, 1, rfl, RIn.lit L ⟨a, none, c, 0, rfl, H.out.bl (by go_grown), VIn.zero _⟩, by go_grown⟩
end
section
open Go.RowKit
set_option maxHeartbeats 2000000 in
theorem one_lt (u v : Pl.Ver) (a b : Option Addr) (c d : Nat) (w : World) (h1 : VIn w u a c) (h2 : VIn w v b d) (o1 : u.Ok) (o2 : v.Ok) (k : Int) (e1 : Pl.verCmp u v = k) (hk : k < 0) :
 Calls Tryz.prog 151 #[verV u a c, verV v b d] w (RRng [⟨u, v, false⟩] w) := by
 have CO := Hd (fun (W : World) (g1 : VIn W u a c) (g2 : VIn W v b d) => VersionOrder_any u v a b c d W (VOk.of g1 o1) (VOk.of g2 o2))
 rw [e1] at CO
 have H := Hd h1
 have K := Hd h2
 have t1 := decT hk
 clear h1 h2 o1 o2 e1 hk
 go_enter Tryz.func151, Tryz.ntmps151
 have B0 := brl w
 go_wp2_with fail
 refine (CO.out _ (H.out.bl (by go_grown)) (K.out.bl (by go_grown))).mono ?_
 rintro e w1 ⟨rfl, hb⟩
 have B1 := bcm w hb
 have q1 : w.heap.size + 4 ≤ w1.heap.size := qle hb
 replace H := Hd (((((H.out.al _).al _).al _).al _).bl hb)
 replace K := Hd (((((K.out.al _).al _).al _).al _).bl hb)
 have X := (((((bkn w.heap.size [.int .i64 u.maj, .int .i64 u.min, .int .i64 u.pat, .slice a u.pre.length c] 24).alloc _).alloc _).alloc _)).bw hb
 have Y := ((((bkn (w.heap.size + 1) [.int .i64 v.maj, .int .i64 v.min, .int .i64 v.pat, .slice b v.pre.length d] 24).alloc _).alloc _)).bw hb
 have R := (((bkn (w.heap.size + 1 + 1) [.slice none 0 0] 33).alloc _)).bw hb
 have Q := ((bkn (w.heap.size + 1 + 1 + 1) [.slice none 0 0] 33)).bw hb
 clear hb
 have s1 := B1.size
 have ⟨Xc, Xf, Xl⟩ := X
 have ⟨Yc, Yf, Yl⟩ := Y
 have ⟨Rc, Rf, Rl⟩ := R
 have ⟨Qc, Qf, Ql⟩ := Q
 have QY : IvQ w1 (fun b => 0 ≤ b ∧ some b ≠ (Value.slice none 0 0).ownBlock) ⟨u, v, false⟩ [.int .i64 u.maj, .int .i64 u.min, .int .i64 u.pat, .slice a u.pre.length c, .int .i64 v.maj, .int .i64 v.min, .int .i64 v.pat, .slice b v.pre.length d, .bool false] := ⟨a, b, c, d, rfl, H.out, K.out, H.out.at.mono fun b _ => ⟨Nat.zero_le _, fun e => absurd (show some b = none from e) (by simp)⟩, K.out.at.mono fun b _ => ⟨Nat.zero_le _, fun e => absurd (show some b = none from e) (by simp)⟩⟩
 go_wp2_with (at_builtin; go_loud (refine ap1r (by rfl) (by rfl) (by rfl) (ROwn.nil w1 (w.heap.size + 4) 0) (c := 1) (C := [.int .i64 u.maj, .int .i64 u.min, .int .i64 u.pat, .slice a u.pre.length c, .int .i64 v.maj, .int .i64 v.min, .int .i64 v.pat, .slice b v.pre.length d, .bool false]) (by rfl) QY (by omega) (by omega) ?_); intro v2 w2 NEW hg2 hb2 hs2; have B2 : Below w.heap.size w w2 := bcall B1 hb2 (by omega); replace R := R.below hb2 (by omega); replace Q := Q.below hb2 (by omega); obtain ⟨o2, c2, rfl⟩ := NEW.slice; clear hg2 hb2 QY Xc Xf Xl Yc Yf Yl Rc Rf Rl Qc Qf Ql; obtain ⟨Rc, Rf, Rl⟩ := id R; obtain ⟨Qc, Qf, Ql⟩ := id Q)
 have R1 := R.fr (w.heap.size + 1 + 1 + 1) 0 (by omega) (.slice o2 1 c2)
 have RN := R1.st 0 (.slice o2 1 c2)
 obtain ⟨RNc, RNf, RNl⟩ := RN
 refine bodyPost_ret (v := .agg #[.slice o2 1 c2]) (by simp [results, Tryz.results151, go_sem, RNc]) rfl ⟨o2, c2, rfl, ((NEW.far (by dsimp only; omega) (Q.c 0) (by nofun) (.slice o2 1 c2)).far (by dsimp only; omega) (R1.c 0) (by nofun) (.slice o2 1 c2)).rin, by go_grown⟩
set_option maxHeartbeats 2000000 in
theorem one_ge (u v : Pl.Ver) (a b : Option Addr) (c d : Nat) (w : World) (h1 : VIn w u a c) (h2 : VIn w v b d) (o1 : u.Ok) (o2 : v.Ok) (k : Int) (e1 : Pl.verCmp u v = k) (hk : ¬ k < 0) :
 Calls Tryz.prog 151 #[verV u a c, verV v b d] w (RRng [] w) := by
 have CO := Hd (fun (W : World) (g1 : VIn W u a c) (g2 : VIn W v b d) => VersionOrder_any u v a b c d W (VOk.of g1 o1) (VOk.of g2 o2))
 rw [e1] at CO
 have H := Hd h1
 have K := Hd h2
 have t1 := decF hk
 clear h1 h2 o1 o2 e1 hk
 go_enter Tryz.func151, Tryz.ntmps151
 have B0 := brl w
 go_wp2_with fail
 refine (CO.out _ (H.out.bl (by go_grown)) (K.out.bl (by go_grown))).mono ?_
 rintro e w1 ⟨rfl, hb⟩
 have B1 := bcm w hb
 have q1 : w.heap.size + 4 ≤ w1.heap.size := qle hb
 replace H := Hd (((((H.out.al _).al _).al _).al _).bl hb)
 replace K := Hd (((((K.out.al _).al _).al _).al _).bl hb)
 have X := (((((bkn w.heap.size [.int .i64 u.maj, .int .i64 u.min, .int .i64 u.pat, .slice a u.pre.length c] 24).alloc _).alloc _).alloc _)).bw hb
 have Y := ((((bkn (w.heap.size + 1) [.int .i64 v.maj, .int .i64 v.min, .int .i64 v.pat, .slice b v.pre.length d] 24).alloc _).alloc _)).bw hb
 have R := (((bkn (w.heap.size + 1 + 1) [.slice none 0 0] 33).alloc _)).bw hb
 have Q := ((bkn (w.heap.size + 1 + 1 + 1) [.slice none 0 0] 33)).bw hb
 clear hb
 have s1 := B1.size
 have ⟨Xc, Xf, Xl⟩ := X
 have ⟨Yc, Yf, Yl⟩ := Y
 have ⟨Rc, Rf, Rl⟩ := R
 have ⟨Qc, Qf, Ql⟩ := Q
 go_wp2_with fail
 have RN := R.st 0 (.slice none 0 0)
 obtain ⟨RNc, RNf, RNl⟩ := RN
 refine bodyPost_ret (v := .agg #[.slice none 0 0]) (by simp [results, Tryz.results151, go_sem, RNc]) rfl ⟨none, 0, rfl, RIn.nil _, by go_grown⟩
theorem one_any (u v : Pl.Ver) (a b : Option Addr) (c d : Nat) (w : World) (h1 : VIn w u a c) (h2 : VIn w v b d) (o1 : u.Ok) (o2 : v.Ok) : Calls Tryz.prog 151 #[verV u a c, verV v b d] w (RRng (Pl.oneR u v) w) := by
 unfold Pl.oneR
 by_cases hk : Pl.verCmp u v < 0
 · rw [if_pos hk]; exact one_lt u v a b c d w h1 h2 o1 o2 _ rfl hk
 · rw [if_neg hk]; exact one_ge u v a b c d w h1 h2 o1 o2 _ rfl hk
end
section
open Go.RowKit
set_option maxHeartbeats 1000000 in
theorem Smallest_any (w : World) : Calls Tryz.prog 78 #[] w (RVer Pl.lowV w) := by
 go_enter Tryz.func78, Tryz.ntmps78
 go_wp2_with fail
 refine bodyPost_ret (v := .agg #[.int .i64 0, .int .i64 0, .int .i64 0, .slice (some ⟨w.heap.size + 1, 0, none⟩) 1 1]) (by simp [results, Tryz.results78, go_sem]) rfl ⟨some ⟨w.heap.size + 1, 0, none⟩, 1, rfl, VIn.lit (by decide) ?_, by go_grown⟩
 first | exact Bk.new (cs := [.string Pl.zeroId]) _ _ (by simp) | skip
end
section
open Go.RowKit
theorem ExtD.below {B : Nat} {w w' : World} (h : Below B w w') (_ : B ≤ w.heap.size) : ExtD (fun b => B ≤ b) w w' := ⟨h.size, fun b C e fr hd hb => ⟨fr, by rw [h.block b (by omega), hb], .inl rfl⟩⟩
section theory
variable {P : Program} {ops : Array Oper} {md : Region.Mode} {D : Nat → Nat → Prop}
def hitsR (D : Nat → Nat → Prop) (md : Region.Mode) (ops : Array Oper) (i : Nat) (b : Nat) : Prop := ∃ j, incB md ops i j = true ∧ D j b
def eOpR (P : Program) (D : Nat → Nat → Prop) (md : Region.Mode) (ops : Array Oper) (i : Nat) (K : Act → World → Prop) (a : Act) (w : World) : Prop :=
 match ops[i]? with
 | none => K a w
 | some o => if Region.wanted o (yielded ops a.tmps) then extOpD P (hitsR D md ops i) (D i) (aloneB md ops i) o a w K else K (a.put o.dst undef) w
theorem eOpR_mono {i : Nat} {a : Act} {w : World} {K K' : Act → World → Prop} (h : ∀ a w, K a w → K' a w) (hh : eOpR P D md ops i K a w) : eOpR P D md ops i K' a w := by
 unfold eOpR at *
 split
 · exact h _ _ (by simpa [*] using hh)
 · rename_i o ho
   simp only [ho] at hh
   split
   · rename_i hw
     simp only [hw, if_true] at hh
     rcases hh with ⟨h0, h1, h2⟩ | ⟨h1, v, h2, h3⟩ | ⟨h1, h2⟩
     · exact .inl ⟨h0, h1, stUpon_mono h h2⟩
     · exact .inr (.inl ⟨h1, v, h2, h _ _ h3⟩)
     · exact .inr (.inr ⟨h1, addUponD_mono h h2⟩)
   · rename_i hw; simp only [hw] at hh; exact h _ _ hh
def wpAnyR (P : Program) (D : Nat → Nat → Prop) (md : Region.Mode) (ops : Array Oper) (Q : Act → World → Prop) : Nat → Array Bool → Act → World → Prop
 | 0, listed, a, w => Region.ready md ops listed = [] ∧ Q a w
 | fuel + 1, listed, a, w =>
   (Region.ready md ops listed = [] → Q a w) ∧
   ∀ i ∈ Region.ready md ops listed, eOpR P D md ops i (wpAnyR P D md ops Q fuel (listed.setIfInBounds i true)) a w
theorem wpOp_of_eOpR {i : Nat} {a : Act} {K : Act → World → Prop} {K' : Act → World → Prop} {Q' : Exit → Act → World → Prop} {w : World} (h : ∀ a w', K a w' → K' a w') (hh : eOpR P D md ops i K a w) : wpOp P ops Q' i K' a w := by
 unfold eOpR at hh
 unfold wpOp
 split
 · rename_i ho; simp only [ho] at hh; exact h _ _ hh
 · rename_i o ho
   simp only [ho] at hh
   split
   · rename_i hw
     simp only [hw, if_true] at hh
     refine .inl ?_
     unfold Oper.wp
     rcases hh with ⟨_, h1, h2⟩ | ⟨h1, v, h2, h3⟩ | ⟨h1, h2⟩
     · generalize (execOp a.eval o).run P w = r at *
       cases r with
       | ok n w' =>
         cases n <;> simp only [stUpon] at h2 <;> simp only [Oper.upon]
         case skip => exact h _ _ h2
         case value u => exact h _ _ h2
       | halt x w' => simp only [stUpon] at h2
     · have h4 := h2 w (ExtD.refl _ _)
       generalize (execOp a.eval o).run P w = r at *
       cases r with
       | ok n w' =>
         cases n <;> simp only [rdUpon] at h4 <;> simp only [Oper.upon]
         case value u => obtain ⟨rfl, rfl⟩ := h4; exact h _ _ h3
         case skip => obtain ⟨rfl, rfl⟩ := h4; exact h _ _ h3
       | halt x w' => simp only [rdUpon] at h4
     · generalize (execOp a.eval o).run P w = r at *
       cases r with
       | ok n w' =>
         cases n <;> simp only [addUponD] at h2 <;> simp only [Oper.upon]
         case value u => exact h _ _ h2.2
         case skip => exact h _ _ h2.2
         case enter f args =>
          obtain ⟨rfl, hc⟩ := h2
          exact hc.mono fun e w'' ⟨v, he, _, hk⟩ => by subst he; exact h _ _ hk
       | halt x w' => simp only [addUponD] at h2
   · rename_i hw; simp only [hw] at hh; exact h _ _ hh
theorem wpAny_of_R {Q : Act → World → Prop} {Q' : Exit → Act → World → Prop} (hQ : ∀ a w, Q a w → Q' .normal a w) : ∀ (fuel : Nat) (listed : Array Bool) (a : Act) (w : World),
 wpAnyR P D md ops Q fuel listed a w → wpAny P md ops Q' fuel listed a w
 | 0, _, _, _, h => ⟨h.1, hQ _ _ h.2⟩
 | fuel + 1, _, _, _, h => ⟨fun h0 => hQ _ _ (h.1 h0), fun i hi => wpOp_of_eOpR (fun a' w' => wpAny_of_R hQ fuel _ a' w') (h.2 i hi)⟩
theorem YieldsD.atR {i : Nat} {o : Oper} {v : Value} {a : Act} {w : World} (hi : ops[i]? = some o) (hy : YieldsD P (hitsR D md ops i) ops o v a w) {K : Act → World → Prop} (h : K (a.put o.dst v) w) : eOpR P D md ops i K a w := by
 unfold eOpR
 simp only [hi]
 rcases hy with ⟨hw, hr, hv⟩ | ⟨hw, rfl⟩
 · simp only [hw, if_true]; exact .inr (.inl ⟨hr, v, hv, h⟩)
 · simp only [hw, Bool.false_eq_true, if_false]; exact h
theorem eOpR_put {i j : Nat} {oi oj : Oper} {v : Value} (hj : ops[j]? = some oj) (hap : oi.apart ops oj = true)
 (hsi : ∀ cs b, oi.op ≠ .select cs b) (hsj : ∀ cs b, oj.op ≠ .select cs b) (hal : aloneB md ops j = false) (hinc : incB md ops i j = true) {K : Act → World → Prop} {a : Act} {w : World}
 (hy : YieldsD P (hitsR D md ops i) ops oi v a w) (h : eOpR P D md ops j K (a.put oi.dst v) w) :
 eOpR P D md ops j (fun a' w' => YieldsD P (hitsR D md ops i) ops oi v a' w' ∧ K (a'.put oi.dst v) w') a w := by
 obtain ⟨h1, h2, h3⟩ := Oper.apart_spec hap
 have keep : ∀ u w', ExtD (hitsR D md ops i) w w' → YieldsD P (hitsR D md ops i) ops oi v (a.put oj.dst u) w' := fun u w' hb =>
  hy.of_same hb (execOp_put oi hsi a oj.dst u h3) (wanted_put oi a oj.dst u h3)
 unfold eOpR at *
 simp only [hj] at *
 rw [wanted_put oj a oi.dst v h1] at h
 split
 · rename_i hw
   simp only [hw, if_true] at h
   unfold extOpD at *
   rw [execOp_put oj hsj a oi.dst v h1] at h
   rcases h with ⟨g0, _⟩ | ⟨g1, u, g2, g3⟩ | ⟨g1, g2⟩
   · rw [hal] at g0; cases g0
   · exact .inr (.inl ⟨g1, u, g2, keep u w (ExtD.refl _ _), by rw [← Act.put_comm a v u h2]; exact g3⟩)
   · refine .inr (.inr ⟨g1, ?_⟩)
     generalize (execOp a.eval oj).run P w = r at *
     cases r with
     | ok n w' =>
       cases n <;> simp only [addUponD] at g2 ⊢
       case value u => exact ⟨g2.1, keep u w' (g2.1.mono fun b h => ⟨_, hinc, h⟩), by rw [← Act.put_comm a v u h2]; exact g2.2⟩
       case skip => exact ⟨g2.1, keep undef w' (g2.1.mono fun b h => ⟨_, hinc, h⟩), by rw [← Act.put_comm a v undef h2]; exact g2.2⟩
       case enter f args => exact ⟨g2.1, g2.2.mono fun e w'' ⟨u, he, hb, hk⟩ => ⟨u, he, hb, keep u w'' (hb.mono fun b h => ⟨_, hinc, h⟩), by rw [← Act.put_comm a v u h2]; exact hk⟩⟩
     | halt x w' => simp only [addUponD] at g2
 · rename_i hw
   simp only [hw] at h
   exact ⟨keep _ w (ExtD.refl _ _), by rw [← Act.put_comm a v undef h2]; exact h⟩
theorem wpAnyR_first {Q : Act → World → Prop} {i : Nat} {oi : Oper} {v : Value} (hi : ops[i]? = some oi) (hsel : ∀ (j : Nat) (o : Oper) cs b, ops[j]? = some o → o.op ≠ .select cs b) :
 ∀ (fuel : Nat) (listed : Array Bool) (a : Act) (w : World),
  Closed md ops listed →
  (∀ j oj, ops[j]? = some oj → j ≠ i → listed.getD j true = false → (∀ e ∈ oj.after, Region.binds md e = true → e.on ≠ i) → oi.apart ops oj = true) →
  i ∈ Region.ready md ops listed → YieldsD P (hitsR D md ops i) ops oi v a w →
  wpAnyR P D md ops Q fuel (listed.setIfInBounds i true) (a.put oi.dst v) w → wpAnyR P D md ops Q (fuel + 1) listed a w := by
 intro fuel
 induction fuel with
 | zero =>
   intro listed a w _ _ hr hy H
   refine ⟨fun h => (by rw [h] at hr; cases hr), fun j hj => ?_⟩
   by_cases hji : j = i
   · subst hji; exact hy.atR hi H
   · have := ready_mono hj hji
     rw [H.1] at this
     cases this
 | succ fuel ih =>
   intro listed a w hcl hfree hr hy H
   refine ⟨fun h => (by rw [h] at hr; cases hr), fun j hj => ?_⟩
   by_cases hji : j = i
   · subst hji; exact hy.atR hi H
   · have h1 := H.2 j (ready_mono hj hji)
     obtain ⟨hjun, oj, hoj, hall⟩ := mem_ready.1 hj
     have hnot : ∀ e ∈ oj.after, Region.binds md e = true → e.on ≠ i := fun e he hb heq => by
      have h1 := hall e he hb
      have h0 := (mem_ready.1 hr).1
      rw [heq] at h1
      rcases Nat.lt_or_ge i listed.size with h' | h'
      · simp [h'] at h0 h1; rw [h0] at h1; cases h1
      · simp [Array.getElem?_eq_none h'] at h1
     have h2 := eOpR_put hoj (hfree j oj hoj hji hjun hnot) (fun cs b => hsel i oi cs b hi) (fun cs b => hsel j oj cs b hoj) (alone_not hcl hr hj hji) (inc_ready hcl hr hj hji) hy h1
     have hfree' : ∀ k ok, ops[k]? = some ok → k ≠ i → (listed.setIfInBounds j true).getD k true = false →
      (∀ e ∈ ok.after, Region.binds md e = true → e.on ≠ i) → oi.apart ops ok = true := fun k ok hk hki hun hno => by
      refine hfree k ok hk hki ?_ hno
      by_cases hjk : j = k
      · subst hjk; exact hjun
      · rw [getD_set_ne true hjk] at hun; exact hun
     refine eOpR_mono (fun a' w' h3 => ih (listed.setIfInBounds j true) a' w' (hcl.set hj) hfree' (ready_mono hr (Ne.symm hji)) h3.1 ?_) h2
     rw [Array.setIfInBounds_comm _ _ hji]
     exact h3.2
def wpR (P : Program) (D : Nat → Nat → Prop) (md : Region.Mode) (ops : Array Oper) (Q : Act → World → Prop) : List Nat → Act → World → Prop
 | [], a, w => Q a w
 | i :: l, a, w => eOpR P D md ops i (wpR P D md ops Q l) a w
theorem wpAnyR_ord {Q : Act → World → Prop} (hs : Region.noSelect ops = true) : ∀ (l : List Nat) (listed : Array Bool) (a : Act) (w : World),
 Closed md ops listed → ordFromD md ops l listed = true → wpR P D md ops Q l a w → wpAnyR P D md ops Q l.length listed a w
 | [], _, _, _, _, hB, h => ⟨by simpa [ordFromD] using hB, h⟩
 | i :: l, listed, a, w, hcl, hB, h => by
   simp only [ordFromD, Bool.and_eq_true, Bool.or_eq_true, beq_iff_eq] at hB
   obtain ⟨⟨hr, hf⟩, hB'⟩ := hB
   have h : eOpR P D md ops i (wpR P D md ops Q l) a w := h
   have ih := fun a' w' => wpAnyR_ord (Q := Q) hs l (listed.setIfInBounds i true) a' w' (hcl.set (by simpa using hr)) hB'
   rcases hf with ⟨hd, hf⟩ | hf
   · unfold rdAt2 at hd
     cases ho : ops[i]? with
     | none => simp [ho] at hd
     | some o =>
       simp only [ho] at hd
       have h' := h
       unfold eOpR at h'
       simp only [ho] at h'
       by_cases hw : Region.wanted o (yielded ops a.tmps) = true
       · simp only [hw, if_true] at h'
         have hd1 : isRd o.op = true := by simp only [isRd2, Bool.and_eq_true] at hd; exact hd.1
         rcases h' with ⟨_, h1, _⟩ | ⟨h1, v, h2, h3⟩ | ⟨h1, _⟩
         · rw [isSt_rd hd1] at h1; cases h1
         · exact wpAnyR_first ho (Region.noSelect_spec hs) l.length listed a w hcl (Region.free_spec ho hf) (by simpa using hr) (.inl ⟨hw, hd1, h2⟩) (ih _ _ h3)
         · rw [h1] at hd; cases hd
       · simp only [hw] at h'
         exact wpAnyR_first ho (Region.noSelect_spec hs) l.length listed a w hcl (Region.free_spec ho hf) (by simpa using hr) (.inr ⟨by simpa using hw, rfl⟩) (ih _ _ h')
   · refine ⟨fun h0 => ?_, fun j hj => ?_⟩
     · rw [hf] at h0; cases h0
     · rw [hf] at hj
       obtain rfl : j = i := by simpa using hj
       exact eOpR_mono ih h
def twoFrom (md : Region.Mode) (ops : Array Oper) (i1 : Nat) (t1 : List Nat) (i2 : Nat) (t2 : List Nat) : List Nat → Array Bool → Bool
 | [], listed => !(Region.ready md ops listed).isEmpty && t1.length == t2.length && (Region.ready md ops listed).all fun k => (k == i1 && ordFromD md ops t1 (listed.setIfInBounds i1 true)) || (k == i2 && ordFromD md ops t2 (listed.setIfInBounds i2 true))
 | i :: l, listed => (Region.ready md ops listed).contains i && ((rdAt2 ops i && Region.free md ops listed i) || Region.ready md ops listed == [i]) && twoFrom md ops i1 t1 i2 t2 l (listed.setIfInBounds i true)
theorem wpAnyR_two {Q : Act → World → Prop} {i1 i2 : Nat} {t1 t2 : List Nat} (hs : Region.noSelect ops = true) : ∀ (l : List Nat) (listed : Array Bool) (a : Act) (w : World),
 Closed md ops listed → twoFrom md ops i1 t1 i2 t2 l listed = true → wpR P D md ops (fun a w => wpR P D md ops Q (i1 :: t1) a w ∧ wpR P D md ops Q (i2 :: t2) a w) l a w → wpAnyR P D md ops Q (l.length + (t1.length + 1)) listed a w
 | [], listed, a, w, hcl, hB, h => by
   simp only [twoFrom, Bool.and_eq_true, Bool.or_eq_true, beq_iff_eq, Bool.not_eq_true', List.isEmpty_eq_false_iff, List.all_eq_true] at hB
   obtain ⟨⟨h0, hl⟩, hall⟩ := hB
   rw [List.length_nil, Nat.zero_add]
   refine ⟨fun h2 => absurd h2 h0, fun j hj => ?_⟩
   rcases hall j hj with ⟨rfl, hB'⟩ | ⟨rfl, hB'⟩
   · exact eOpR_mono (fun a' w' h' => wpAnyR_ord (Q := Q) hs t1 _ a' w' (hcl.set hj) hB' h') h.1
   · rw [hl]
     exact eOpR_mono (fun a' w' h' => wpAnyR_ord (Q := Q) hs t2 _ a' w' (hcl.set hj) hB' h') h.2
 | i :: l, listed, a, w, hcl, hB, h => by
   simp only [twoFrom, Bool.and_eq_true, Bool.or_eq_true, beq_iff_eq] at hB
   obtain ⟨⟨hr, hf⟩, hB'⟩ := hB
   have h : eOpR P D md ops i (wpR P D md ops (fun a w => wpR P D md ops Q (i1 :: t1) a w ∧ wpR P D md ops Q (i2 :: t2) a w) l) a w := h
   have ih := fun a' w' => wpAnyR_two (Q := Q) hs l (listed.setIfInBounds i true) a' w' (hcl.set (by simpa using hr)) hB'
   rw [show (i :: l).length + (t1.length + 1) = (l.length + (t1.length + 1)) + 1 by rw [List.length_cons]; omega]
   rcases hf with ⟨hd, hf⟩ | hf
   · unfold rdAt2 at hd
     cases ho : ops[i]? with
     | none => simp [ho] at hd
     | some o =>
       simp only [ho] at hd
       have h' := h
       unfold eOpR at h'
       simp only [ho] at h'
       by_cases hw : Region.wanted o (yielded ops a.tmps) = true
       · simp only [hw, if_true] at h'
         have hd1 : isRd o.op = true := by simp only [isRd2, Bool.and_eq_true] at hd; exact hd.1
         rcases h' with ⟨_, h1, _⟩ | ⟨h1, v, h2, h3⟩ | ⟨h1, _⟩
         · rw [isSt_rd hd1] at h1; cases h1
         · exact wpAnyR_first ho (Region.noSelect_spec hs) _ listed a w hcl (Region.free_spec ho hf) (by simpa using hr) (.inl ⟨hw, hd1, h2⟩) (ih _ _ h3)
         · rw [h1] at hd; cases hd
       · simp only [hw] at h'
         exact wpAnyR_first ho (Region.noSelect_spec hs) _ listed a w hcl (Region.free_spec ho hf) (by simpa using hr) (.inr ⟨by simpa using hw, rfl⟩) (ih _ _ h')
   · refine ⟨fun h0 => ?_, fun j hj => ?_⟩
     · rw [hf] at h0; cases h0
     · rw [hf] at hj
       obtain rfl : j = i := by simpa using hj
       exact eOpR_mono ih h
def twoB (ops : Array Oper) (l : List Nat) (i1 : Nat) (t1 : List Nat) (i2 : Nat) (t2 : List Nat) : Bool := Region.noSelect ops && l.length + (t1.length + 1) == ops.size && twoFrom .any ops i1 t1 i2 t2 l (Array.replicate ops.size false)
theorem wp_region_two {id : Nat} {Q : Exit → Act → World → Prop} {a : Act} {w : World} {l : List Oper} (D : Nat → Nat → Prop) (pre : List Nat) (i1 : Nat) (t1 : List Nat) (i2 : Nat) (t2 : List Nat) (hm : P.follows .mixedOrders = true) (hB : twoB l.toArray pre i1 t1 i2 t2 = true)
 (h : wpR P D .any l.toArray (fun a w => wpR P D .any l.toArray (fun a' w' => Q .normal a' w') (i1 :: t1) a w ∧ wpR P D .any l.toArray (fun a' w' => Q .normal a' w') (i2 :: t2) a w) pre a w.drew) : (Code.region id l.toArray true).wp P Q a w := by
 simp only [twoB, Bool.and_eq_true, beq_iff_eq] at hB
 obtain ⟨⟨h1, h2⟩, h3⟩ := hB
 have h4 := wpAnyR_two h1 pre _ a _ Closed.start h3 h
 rw [h2] at h4
 exact wp_region_any hm (wpAny_of_R (Q := fun a' w' => Q .normal a' w') (fun _ _ h => h) _ _ _ _ h4)
theorem wpR_nil {Q : Act → World → Prop} {a : Act} {w : World} (h : Q a w) : wpR P D md ops Q [] a w := h
theorem wpR_rd (js : List Nat) (hD : ∀ j b, D j b → j ∈ js) {Q : Act → World → Prop} {a : Act} {w : World} {l : List Oper} {i : Nat} {rest : List Nat} {o : Oper} (hL : (js.all fun j => !incB md l.toArray i j) = true) (hi : l[i]? = some o) (hr : isRd o.op = true)
 (h : wpQuiet P l.toArray (fun w' => ∃ e, w' = extWL [] w e) (fun a' => wpR P D md l.toArray Q rest a' w) [o] a) : wpR P D md l.toArray Q (i :: rest) a w := by
 show eOpR P D md l.toArray i _ a w
 have hi' : l.toArray[i]? = some o := by simpa using hi
 unfold eOpR
 simp only [hi']
 unfold wpQuiet at h
 split
 · rename_i hw
   simp only [hw, if_true] at h
   obtain ⟨v, h1, h2⟩ := h
   refine .inr (.inl ⟨hr, v, fun w' hb => ?_, h2⟩)
   have hb0 : ExtD (fun b => b ∈ ([] : List Nat)) w w' := hb.mono fun b ⟨j, h1, h2⟩ => by
    have := List.all_eq_true.1 hL j (hD j b h2)
    rw [h1] at this
    cases this
   have h3 := h1 w' ⟨w', extWD_of hb0⟩
   unfold Oper.quietAt at h3
   cases hx : (execOp a.eval o).run P w' with
   | ok n w2 =>
     rw [hx] at h3
     cases n <;> simp only [Oper.quietUpon] at h3 <;> simp only [rdUpon]
     case value u => exact h3
     case skip => exact h3
     case enter f args => exact absurd hx (noEnter hr)
   | halt x w2 => rw [hx] at h3; simp only [Oper.quietUpon] at h3
 · rename_i hw
   simp only [hw] at h
   exact h
theorem wpR_pure {Q : Act → World → Prop} {a : Act} {w : World} {l : List Oper} {i : Nat} {rest : List Nat} {o : Oper} (hi : l[i]? = some o) (hr : isRd o.op = true)
 (h : wpQuiet P l.toArray (fun _ => True) (fun a' => wpR P D md l.toArray Q rest a' w) [o] a) : wpR P D md l.toArray Q (i :: rest) a w := by
 show eOpR P D md l.toArray i _ a w
 have hi' : l.toArray[i]? = some o := by simpa using hi
 unfold eOpR
 simp only [hi']
 unfold wpQuiet at h
 split
 · rename_i hw
   simp only [hw, if_true] at h
   obtain ⟨v, h1, h2⟩ := h
   refine .inr (.inl ⟨hr, v, fun w' _ => ?_, h2⟩)
   have h3 := h1 w' trivial
   unfold Oper.quietAt at h3
   cases hx : (execOp a.eval o).run P w' with
   | ok n w2 =>
     rw [hx] at h3
     cases n <;> simp only [Oper.quietUpon] at h3 <;> simp only [rdUpon]
     case value u => exact h3
     case skip => exact h3
     case enter f args => exact absurd hx (noEnter hr)
   | halt x w2 => rw [hx] at h3; simp only [Oper.quietUpon] at h3
 · rename_i hw
   simp only [hw] at h
   exact h
theorem wpR_call {Q : Act → World → Prop} {a : Act} {w : World} {l : List Oper} {i : Nat} {rest : List Nat} {o : Oper} (hi : l[i]? = some o) (hr : isRd2 o.op = false) (hw : Region.wanted o (yielded l.toArray a.tmps) = true)
 {f : FuncId} {args : Array Value} (hx : (execOp a.eval o).run P w = .ok (.enter f args) w)
 (h : Calls P f args w (fun e w' => ∃ v, e = .returned v ∧ Below w.heap.size w w' ∧ wpR P D md l.toArray Q rest (a.put o.dst v) w')) : wpR P D md l.toArray Q (i :: rest) a w := by
 show eOpR P D md l.toArray i _ a w
 have hi' : l.toArray[i]? = some o := by simpa using hi
 unfold eOpR
 simp only [hi', hw, if_true]
 refine .inr (.inr ⟨hr, ?_⟩)
 rw [hx]
 exact ⟨rfl, h.mono fun e w' ⟨v, h1, h2, h3⟩ => ⟨v, h1, (Below.ext h2).d _, h3⟩⟩
theorem wpR_add {Q : Act → World → Prop} {a : Act} {w : World} {l : List Oper} {i : Nat} {rest : List Nat} {o : Oper} (hi : l[i]? = some o) (hr : isRd2 o.op = false) (hw : Region.wanted o (yielded l.toArray a.tmps) = true)
 {u : Value} {w' : World} (hx : (execOp a.eval o).run P w = .ok (.value u) w') (hb : Ext w w')
 (h : wpR P D md l.toArray Q rest (a.put o.dst u) w') : wpR P D md l.toArray Q (i :: rest) a w := by
 show eOpR P D md l.toArray i _ a w
 have hi' : l.toArray[i]? = some o := by simpa using hi
 unfold eOpR
 simp only [hi', hw, if_true]
 refine .inr (.inr ⟨hr, ?_⟩)
 rw [hx]
 exact ⟨hb.d _, h⟩
theorem wpR_st {Q : Act → World → Prop} {a : Act} {w : World} {l : List Oper} {i : Nat} {rest : List Nat} {o : Oper} (hi : l[i]? = some o) (hr : isRd2 o.op = false) (hw : Region.wanted o (yielded l.toArray a.tmps) = true)
 {w' : World} (hx : (execOp a.eval o).run P w = .ok .skip w') (hb : ExtD (D i) w w')
 (h : wpR P D md l.toArray Q rest (a.put o.dst undef) w') : wpR P D md l.toArray Q (i :: rest) a w := by
 show eOpR P D md l.toArray i _ a w
 have hi' : l.toArray[i]? = some o := by simpa using hi
 unfold eOpR
 simp only [hi', hw, if_true]
 refine .inr (.inr ⟨hr, ?_⟩)
 rw [hx]
 exact ⟨hb, h⟩
end theory
end
section
open Go.RowKit
section theory
variable {P : Program} {ops : Array Oper} {md : Region.Mode} {D : Nat → Nat → Prop} {E : List (Nat × Nat)}
theorem wpD_skip {Q : Act → World → Prop} {a : Act} {w : World} {l : List Oper} {i : Nat} {rest : List Nat} {o : Oper} (hi : l[i]? = some o) (hw : Region.wanted o (yielded l.toArray a.tmps) = false)
 (h : wpD P E md l.toArray Q rest (a.put o.dst undef) w) : wpD P E md l.toArray Q (i :: rest) a w := by
 refine wpD_cons ?_
 have hi' : l.toArray[i]? = some o := by simpa using hi
 unfold eOpD
 simp only [hi', hw]
 exact h
end theory
end
end Go.Proofs.YtolfgcoalihmgaaGreatDoor
