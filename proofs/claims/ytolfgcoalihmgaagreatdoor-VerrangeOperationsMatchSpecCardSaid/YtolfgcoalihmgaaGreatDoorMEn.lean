/- Texts joined. -/
import Derived.Test.YtolfgcoalihmgaaGreatDoorMBe
import Derived.Test.YtolfgcoalihmgaaGreatDoorMKy
import Derived.Test.YtolfgcoalihmgaaGreatDoorDh
namespace Go.Proofs.YtolfgcoalihmgaaGreatDoor
section
open Go.RowKit
section
variable {P : Program} {ops : Array Oper} {md : Region.Mode}
def isPure : Op → Bool
 | .move _ | .assign _ | .extract .. => true
 | _ => false
theorem pure_any {ev : Operand → Value} {o : Oper} {v : Value} {w w' : World} (h : isPure o.op = true) (g : rdUpon w v ((execOp ev o).run P w)) : rdUpon w' v ((execOp ev o).run P w') := by
 obtain ⟨d, op, t, ps, af, gd⟩ := o
 cases op <;> simp only [isPure, Bool.false_eq_true] at h
 case move x => exact ⟨rfl, g.2⟩
 case assign x => exact ⟨rfl, g.2⟩
 case extract x j =>
  simp only [execOp] at g ⊢
  unfold Instr.extract at g ⊢
  generalize ev x = y at g ⊢
  cases y
  case tuple e =>
   dsimp only at g ⊢
   generalize e[j]? = z at g ⊢
   cases z
   · exact g.elim
   · exact ⟨rfl, g.2⟩
  all_goals exact g.elim
def YieldsP (P : Program) (ops : Array Oper) (o : Oper) (v : Value) (a : Act) : Prop :=
 (Region.wanted o (yielded ops a.tmps) = true ∧ isRd o.op = true ∧ ∀ w', rdUpon w' v ((execOp a.eval o).run P w')) ∨
 (Region.wanted o (yielded ops a.tmps) = false ∧ v = undef)
theorem YieldsP.e {o : Oper} {v : Value} {a : Act} (hy : YieldsP P ops o v a) (w : World) : YieldsE P ops o v a w := by
 rcases hy with ⟨h1, h2, h3⟩ | h1
 · exact .inl ⟨h1, h2, fun w' _ => h3 w'⟩
 · exact .inr h1
theorem YieldsP.of_same {o : Oper} {v : Value} {a a' : Act} (hy : YieldsP P ops o v a) (he : execOp a'.eval o = execOp a.eval o)
 (hw : Region.wanted o (yielded ops a'.tmps) = Region.wanted o (yielded ops a.tmps)) : YieldsP P ops o v a' := by
 unfold YieldsP at *
 rw [he, hw]
 exact hy
theorem eOp_putP {j : Nat} {oi oj : Oper} {v : Value} (hj : ops[j]? = some oj) (hap : oi.apart ops oj = true)
 (hsi : ∀ cs b, oi.op ≠ .select cs b) (hsj : ∀ cs b, oj.op ≠ .select cs b) {K : Act → World → Prop} {a : Act} {w : World}
 (hy : YieldsP P ops oi v a) (h : eOp P ops j K (a.put oi.dst v) w) :
 eOp P ops j (fun a' w' => YieldsP P ops oi v a' ∧ K (a'.put oi.dst v) w') a w := by
 obtain ⟨h1, h2, h3⟩ := Oper.apart_spec hap
 have keep : ∀ u, YieldsP P ops oi v (a.put oj.dst u) := fun u =>
  hy.of_same (execOp_put oi hsi a oj.dst u h3) (wanted_put oi a oj.dst u h3)
 unfold eOp at *
 simp only [hj] at *
 rw [wanted_put oj a oi.dst v h1] at h
 split
 · rename_i hw
   simp only [hw, if_true] at h
   unfold extOp at *
   rw [execOp_put oj hsj a oi.dst v h1] at h
   rcases h with ⟨g1, g2⟩ | ⟨g1, u, g2, g3⟩ | ⟨g1, g2⟩
   · refine .inl ⟨g1, ?_⟩
     generalize (execOp a.eval oj).run P w = r at *
     cases r with
     | ok n w' =>
       cases n <;> simp only [stUpon] at g2 ⊢
       case value u => exact ⟨keep u, by rw [← Act.put_comm a v u h2]; exact g2⟩
       case skip => exact ⟨keep undef, by rw [← Act.put_comm a v undef h2]; exact g2⟩
     | halt x w' => simp only [stUpon] at g2
   · exact .inr (.inl ⟨g1, u, g2, keep u, by rw [← Act.put_comm a v u h2]; exact g3⟩)
   · refine .inr (.inr ⟨g1, ?_⟩)
     generalize (execOp a.eval oj).run P w = r at *
     cases r with
     | ok n w' =>
       cases n <;> simp only [addUpon] at g2 ⊢
       case value u => exact ⟨g2.1, keep u, by rw [← Act.put_comm a v u h2]; exact g2.2⟩
       case skip => exact ⟨g2.1, keep undef, by rw [← Act.put_comm a v undef h2]; exact g2.2⟩
       case enter f args => exact ⟨g2.1, g2.2.mono fun e w'' ⟨u, he, hb, hk⟩ => ⟨u, he, hb, keep u, by rw [← Act.put_comm a v u h2]; exact hk⟩⟩
     | halt x w' => simp only [addUpon] at g2
 · rename_i hw
   simp only [hw, Bool.false_eq_true, if_false] at h
   exact ⟨keep undef, by rw [← Act.put_comm a v undef h2]; exact h⟩
theorem wpAnyE_firstP {Q : Act → World → Prop} {i : Nat} {oi : Oper} {v : Value} (hi : ops[i]? = some oi) (hsel : ∀ (j : Nat) (o : Oper) cs b, ops[j]? = some o → o.op ≠ .select cs b) :
 ∀ (fuel : Nat) (listed : Array Bool) (a : Act) (w : World),
  Closed md ops listed →
  (∀ j oj, ops[j]? = some oj → j ≠ i → listed.getD j true = false → (∀ e ∈ oj.after, Region.binds md e = true → e.on ≠ i) → oi.apart ops oj = true) →
  i ∈ Region.ready md ops listed → YieldsP P ops oi v a →
  wpAnyE P md ops Q fuel (listed.setIfInBounds i true) (a.put oi.dst v) w → wpAnyE P md ops Q (fuel + 1) listed a w := by
 intro fuel
 induction fuel with
 | zero =>
   intro listed a w _ _ hr hy H
   refine ⟨fun h => (by rw [h] at hr; cases hr), fun j hj => ?_⟩
   by_cases hji : j = i
   · subst hji; exact (hy.e w).eOp hi H
   · have := ready_mono hj hji
     rw [H.1] at this
     cases this
 | succ fuel ih =>
   intro listed a w hcl hfree hr hy H
   refine ⟨fun h => (by rw [h] at hr; cases hr), fun j hj => ?_⟩
   by_cases hji : j = i
   · subst hji; exact (hy.e w).eOp hi H
   · have h1 := H.2 j (ready_mono hj hji)
     obtain ⟨hjun, oj, hoj, hall⟩ := mem_ready.1 hj
     have hnot : ∀ e ∈ oj.after, Region.binds md e = true → e.on ≠ i := fun e he hb heq => by
      have h1 := hall e he hb
      have h0 := (mem_ready.1 hr).1
      rw [heq] at h1
      rcases Nat.lt_or_ge i listed.size with h' | h'
      · simp [h'] at h0 h1; rw [h0] at h1; cases h1
      · simp [Array.getElem?_eq_none h'] at h1
     have h2 := eOp_putP hoj (hfree j oj hoj hji hjun hnot) (fun cs b => hsel i oi cs b hi) (fun cs b => hsel j oj cs b hoj) hy h1
     have hfree' : ∀ k ok, ops[k]? = some ok → k ≠ i → (listed.setIfInBounds j true).getD k true = false →
      (∀ e ∈ ok.after, Region.binds md e = true → e.on ≠ i) → oi.apart ops ok = true := fun k ok hk hki hun hno => by
      refine hfree k ok hk hki ?_ hno
      by_cases hjk : j = k
      · subst hjk; exact hjun
      · rw [getD_set_ne true hjk] at hun; exact hun
     refine eOp_mono (fun a' w' h3 => ih (listed.setIfInBounds j true) a' w' (hcl.set hj) hfree' (ready_mono hr (Ne.symm hji)) h3.1 ?_) h2
     rw [Array.setIfInBounds_comm _ _ hji]
     exact h3.2
end
section
variable {P : Program} {l : List Oper} {md : Region.Mode}
def pureAt (ops : Array Oper) (i : Nat) : Bool := match ops[i]? with | some o => isPure o.op | none => false
def freeFromP (md : Region.Mode) (ops : Array Oper) (S T tail : List Nat) : Nat → Array Bool → Bool
 | 0, listed => (S ++ T).all (fun i => listed.getD i false) && tail.length == 0 && ordFrom md ops tail listed
 | n + 1, listed =>
   if (S ++ T).all (fun i => listed.getD i false) then tail.length == n + 1 && ordFrom md ops tail listed
   else match T.find? (fun i => (Region.ready md ops listed).contains i) with
    | some i => rdAt ops i && Region.free md ops listed i && (pureAt ops i || noSt md ops listed i) && freeFromP md ops S T tail n (listed.setIfInBounds i true)
    | none => !(Region.ready md ops listed).isEmpty && (Region.ready md ops listed).all fun i => S.contains i && freeFromP md ops S T tail n (listed.setIfInBounds i true)
theorem wpAnyE_freeP {Q : Act → World → Prop} (hsel : Region.noSelect l.toArray = true) (hd : dstsOk l = true) (hs : Nat → Hold) (w0 : World) (a0 : Act) (S T tail : List Nat)
 (hstep : ∀ i ∈ S ++ T, ∀ o, l[i]? = some o → ∀ x w, Below w0.heap.size w0 w → (∀ e ∈ o.after, Region.binds md e = true → (hs e.on).R (x e.on) w) →
   eOp P l.toArray i (fun a' w' => (Ext w w' ∧ Below w0.heap.size w0 w') ∧ ∃ v, a' = (actOf x l 0 a0).put o.dst v ∧ (hs i).R v w') (actOf x l 0 a0) w)
 (hfin : ∀ x w, Below w0.heap.size w0 w → (∀ i ∈ S ++ T, (hs i).R (x i) w) → wpI P l.toArray Q tail (actOf x l 0 a0) w) :
 ∀ (n : Nat) (listed : Array Bool) (x : Nat → Value) (w : World), Closed md l.toArray listed → freeFromP md l.toArray S T tail n listed = true → Below w0.heap.size w0 w → (∀ i, listed.getD i false = true → (hs i).R (x i) w) →
  wpAnyE P md l.toArray Q n listed (actOf x l 0 a0) w := by
 intro n
 induction n with
 | zero =>
   intro listed x w hcl hB hb hI
   simp only [freeFromP, Bool.and_eq_true, beq_iff_eq, List.all_eq_true] at hB
   have := wpAnyE_ord hsel tail listed _ w hcl hB.2 (hfin x w hb fun i hi => hI i (hB.1.1 i hi))
   rwa [hB.1.2] at this
 | succ n ih =>
   intro listed x w hcl hB hb hI
   rw [freeFromP] at hB
   split at hB
   · rename_i hall
     simp only [List.all_eq_true] at hall
     simp only [Bool.and_eq_true, beq_iff_eq] at hB
     have := wpAnyE_ord hsel tail listed _ w hcl hB.2 (hfin x w hb fun i hi => hI i (hall i hi))
     rwa [hB.1] at this
   · have next : ∀ i o v w', i ∈ Region.ready md l.toArray listed → l[i]? = some o → freeFromP md l.toArray S T tail n (listed.setIfInBounds i true) = true → (Ext w w' ∧ Below w0.heap.size w0 w') → (hs i).R v w' →
      wpAnyE P md l.toArray Q n (listed.setIfInBounds i true) ((actOf x l 0 a0).put o.dst v) w' := by
      intro i o v w' hir ho hB2 hb2 hv
      rw [actOf_upd l 0 a0 i o hd ho, Nat.zero_add]
      refine ih _ _ _ (hcl.set hir) hB2 hb2.2 fun j hj => ?_
      by_cases hji : j = i
      · subst hji; simpa [upd] using hv
      · have e : upd x i v j = x j := by simp [upd, hji]
        rw [e]
        exact (hs j).st _ _ _ (hI j (by rwa [getD_set_ne false (Ne.symm hji)] at hj)) hb2.1
     split at hB
     · rename_i i hfi
       simp only [Bool.and_eq_true] at hB
       have hi1 : i ∈ T := List.mem_of_find?_eq_some hfi
       have hi2 := List.find?_some hfi
       have hr : i ∈ Region.ready md l.toArray listed := by simpa using hi2
       obtain ⟨_, o, ho, haf⟩ := mem_ready.1 hr
       have ho' : l[i]? = some o := by simpa using ho
       have h1 := hstep i (by simp [hi1]) o ho' x w hb fun e he hbe => hI _ (haf e he hbe)
       have hrd := hB.1.1.1
       unfold rdAt at hrd
       simp only [ho] at hrd
       unfold eOp at h1
       simp only [ho] at h1
       by_cases hw : Region.wanted o (yielded l.toArray (actOf x l 0 a0).tmps) = true
       · simp only [hw, if_true] at h1
         rcases h1 with ⟨h1, _⟩ | ⟨_, v, h2, h3, v', h4, h5⟩ | ⟨h2, _⟩
         · rw [isSt_rd hrd] at h1; cases h1
         · rcases (Bool.or_eq_true _ _).mp hB.1.2 with hp | hn
           · unfold pureAt at hp
             simp only [ho] at hp
             refine wpAnyE_firstP ho (Region.noSelect_spec hsel) n listed _ w hcl (Region.free_spec ho hB.1.1.2) hr (.inl ⟨hw, hrd, fun w' => pure_any hp (h2 w (Ext.refl _))⟩) ?_
             rw [h4]
             exact next i o v' w hr ho' hB.2 h3 h5
           · refine wpAnyE_first ho (Region.noSelect_spec hsel) n listed _ w hcl (noSt_spec hn) (Region.free_spec ho hB.1.1.2) hr (.inl ⟨hw, hrd, h2⟩) ?_
             rw [h4]
             exact next i o v' w hr ho' hB.2 h3 h5
         · rw [hrd] at h2; cases h2
       · simp only [hw] at h1
         obtain ⟨h3, v', h4, h5⟩ := h1
         refine wpAnyE_firstP ho (Region.noSelect_spec hsel) n listed _ w hcl (Region.free_spec ho hB.1.1.2) hr (.inr ⟨by simpa using hw, rfl⟩) ?_
         rw [h4]
         exact next i o v' w hr ho' hB.2 h3 h5
     · simp only [Bool.and_eq_true, Bool.not_eq_true', List.isEmpty_eq_false_iff, List.all_eq_true, List.contains_iff_mem] at hB
       refine ⟨fun h0 => absurd h0 hB.1, fun i hi => ?_⟩
       obtain ⟨_, o, ho, haf⟩ := mem_ready.1 hi
       have ho' : l[i]? = some o := by simpa using ho
       have h1 := hstep i (by simp [(hB.2 i hi).1]) o ho' x w hb fun e he hbe => hI _ (haf e he hbe)
       refine eOp_mono ?_ h1
       rintro a' w' ⟨h3, v', rfl, h5⟩
       exact next i o v' w' hi ho' (hB.2 i hi).2 h3 h5
def freeBP (l : List Oper) (S T tail : List Nat) : Bool := Region.noSelect l.toArray && dstsOk l && freeFromP .any l.toArray S T tail l.length (Array.replicate l.length false)
theorem wp_region_freeP {id : Nat} {Q : Exit → Act → World → Prop} {a : Act} {w : World} {l : List Oper} (S T tail : List Nat) (hs : Nat → Hold) (hm : P.follows .mixedOrders = true) (hB : freeBP l S T tail = true)
 (hstep : obAll (stepOb P l hs w.drew a) (S ++ T))
 (hfin : ∀ x w', Below w.drew.heap.size w.drew w' → obAll (fun i => (hs i).R (x i) w') (S ++ T) → wpI P l.toArray (fun a' w' => Q .normal a' w') tail (actOf x l 0 a) w') : (Code.region id l.toArray true).wp P Q a w := by
 simp only [freeBP, Bool.and_eq_true] at hB
 obtain ⟨⟨h1, h2⟩, h3⟩ := hB
 have h4 := wpAnyE_freeP (P := P) (Q := fun a' w' => Q .normal a' w') (md := .any) h1 h2 hs w.drew a S T tail (fun i hi o ho x w' hb hd => by
  have := obAll_mem hstep i hi x w' hb fun j hj => by
   rw [List.contains_iff_mem] at hj
   unfold depsOf at hj
   simp only [ho, List.mem_map, List.mem_filter] at hj
   obtain ⟨e, ⟨he1, he2⟩, rfl⟩ := hj
   exact hd e (by simpa using he1) he2
  simp only [ho, Option.map_some, Option.getD_some] at this
  rw [wpI_cons_eq, wpI_nil_eq] at this
  exact this) (fun x w' hb hI => hfin x w' hb (by
   have : ∀ r : List Nat, (∀ i ∈ r, (hs i).R (x i) w') → obAll (fun i => (hs i).R (x i) w') r := by
    intro r
    induction r with
    | nil => intro _; trivial
    | cons i r ih => intro h; exact ⟨h i (by simp), ih fun j hj => h j (by simp [hj])⟩
   exact this _ hI)) l.length (Array.replicate l.length false)
  (fun i => match l[i]? with | some o => (match o.dst with | some d => a.tmps.getD d undef | none => undef) | none => undef) w.drew Closed.start h3 (Below.refl _ _) (fun i hi => by
   exfalso
   by_cases h : i < l.length
   · simp [h] at hi
   · simp [h] at hi)
 rw [actOf_start l 0 a _ fun i o d h1 h2 => by simp [h1, h2]] at h4
 have e : l.length = l.toArray.size := by simp
 rw [e] at h4
 exact wp_region_any hm (wpAny_of_E (Q := fun a' w' => Q .normal a' w') (fun _ _ h => h) _ _ _ _ h4)
end
end
section
open Go.RowKit
def RestInv (w : World) (L : Nat) (r : List Pl.Ivl) (a : Option Addr) (c k : Nat) (wr : World) (o : Option Addr) (n c' : Nat) (low : Pl.Ver) (la : Option Addr) (lc : Nat) (out : List Pl.Ivl) : Prop :=
 Bk wr (w.heap.size + 1 + 1) [.slice o n c'] ∧ ROwn wr (L + 1) 0 out (.slice o n c') n ∧ Bk wr L [.int .i64 low.maj, .int .i64 low.min, .int .i64 low.pat, .slice la low.pre.length lc] ∧ VIn wr low la lc ∧ SlQ (fun b => b < L) la low.pre.length ∧ low.Ok ∧
 Below w.heap.size w wr ∧ Bk wr (w.heap.size + 1) [.slice none 0 0] ∧ L + 1 ≤ wr.heap.size ∧ out ++ Pl.invAt low (r.drop k) = Pl.invR r ∧ n ≤ k ∧ Bk wr w.heap.size [.slice a r.length c]
def RestAt (w : World) (L : Nat) (r : List Pl.Ivl) (a : Option Addr) (c k : Nat) (wr : World) : Prop := ∃ o n c' low la lc out, RestInv w L r a c k wr o n c' low la lc out
set_option maxRecDepth 100000 in
set_option maxHeartbeats 8000000 in
theorem RangeRest_any (r : List Pl.Ivl) (a : Option Addr) (c : Nat) (w : World) (h : RIn w r a c) (can : Pl.Can r) (hn : r.length ≤ 500000) :
 Calls Tryz.prog 30 #[.agg #[.slice a r.length c]] w (RRng (Pl.invR r) w) := by
 have H := Hd h
 have OK := Hd can.ok
 have CR := Hd (Pl.invR_can can).1
 clear h can
 go_enter Tryz.func30, Tryz.ntmps30
 have B0 := brl w
 go_wp2_with fail
 refine (Smallest_any _).mono ?_
 rintro e w1 ⟨la, lc, rfl, VL, hb⟩
 replace VL := Hd VL
 have B1 := bcm w hb
 have q1 : w.heap.size + 3 ≤ w1.heap.size := qle hb
 have X := ((((bkn w.heap.size [.slice a r.length c] 33).alloc _).alloc _)).bw hb
 have R := (((bkn (w.heap.size + 1) [.slice none 0 0] 33).alloc _)).bw hb
 have O := ((bkn (w.heap.size + 1 + 1) [.slice none 0 0] 33)).bw hb
 clear hb
 have s1 := B1.size
 have ⟨Xc, Xf, Xl⟩ := X
 have ⟨Rc, Rf, Rl⟩ := R
 have ⟨Oc, Of, Ol⟩ := O
 go_wp2_with fail
 have QL := Hd VL.out.at
 have L := Bk.new (r := w1.heap.size) (cs := [.int .i64 Pl.lowV.maj, .int .i64 Pl.lowV.min, .int .i64 Pl.lowV.pat, .slice la Pl.lowV.pre.length lc]) w1 24 (by simp)
 go_loopw [5] (fun i wr => ∃ k : Nat, k ≤ r.length ∧ i = .int .i64 k ∧ RestAt w w1.heap.size r a c k wr) (fun i _ => r.length - (intOf i).toNat)
 case atStart => exact ⟨0, Nat.zero_le _, rfl, none, 0, 0, Pl.lowV, la, lc, [], O.alloc _, ROwn.nil _ _ _, L, VL.out.bl (by go_grown), QL.out.mono (fun b hb => by omega), Pl.lowV_ok, by go_grown, R.alloc _, by simp, rfl, nle, X.alloc _⟩
 case round =>
  obtain ⟨k, hk, rfl, hinv⟩ := hrel
  clear O R L VL QL X B0 B1
  obtain ⟨o, n, c', low, la, lc, out, O, OW, L, VL, QL, OKL, B1, R, q9, EQ, hnk, X⟩ := hinv
  replace VL := Hd VL
  replace QL := Hd QL
  replace OKL := Hd OKL
  replace EQ := Hd EQ
  have s3 := B1.size
  by_cases hlt2 : k < r.length
  · obtain ⟨bb, off, rfl, hltb, hat⟩ := H.out.at (by omega)
    obtain ⟨a1, b1, c1, d1, I0⟩ := hat k hlt2
    have QA := Hd I0.lo.at
    have QB := Hd I0.hi.at
    have I := I0.below B1 hltb nle
    have OX := Hd (OK.out _ (List.getElem_mem hlt2))
    have ST := Hd (Pl.inv_step hlt2 EQ.out)
    clear I0
    have HGW := Hd (fun g hg => (own_lt OW g hg).2)
    clear hat EQ
    obtain ⟨e0, e1, e2, e3, e4, e5, e6, e7, e8, VA, VB⟩ := I
    replace VA := Hd VA
    replace VB := Hd VB
    have CO := Hd (fun (W : World) (g1 : VIn W low la lc) (g2 : VIn W r[k].lo a1 c1) => VersionOrder_any low r[k].lo la a1 lc c1 W (VOk.of g1 OKL.out) (VOk.of g2 OX.out.lo))
    obtain ⟨K, hK⟩ : ∃ K, Pl.verCmp low r[k].lo = K := ⟨_, rfl⟩
    rw [hK] at CO ST
    generalize r[k] = x at *
    cases hu : x.un with
    | true =>
      rw [hu] at e8
      have E := Hd (ST.out.1 hu)
      clear ST
      by_cases k0 : K < 0
      · have t1 := decT k0
        rw [if_pos k0] at E
        clear k0 hu hK
        have ⟨Oc, Of, Ol⟩ := O
        have ⟨Rc, Rf, Rl⟩ := R
        have ⟨Lc, Lf, Ll⟩ := L
        have ⟨Xc, Xf, Xl⟩ := X
        go_wp2_with fail
        refine (CO.out _ (VL.out.bl (by go_grown)) (VA.out.bl (by go_grown))).mono ?_
        rintro e w5 ⟨rfl, hb⟩
        replace OW := (OW.alloc _).bl hb
        have B5 := bcm w hb
        have q5 : wr.heap.size + 1 ≤ w5.heap.size := qle hb
        replace VL := Hd ((VL.out.al _).bl hb)
        replace VA := Hd ((VA.out.al _).bl hb)
        replace VB := Hd ((VB.out.al _).bl hb)
        replace O := ((O.alloc _)).bw hb
        replace R := ((R.alloc _)).bw hb
        replace L := ((L.alloc _)).bw hb
        replace X := ((X.alloc _)).bw hb
        have Y := ((bkn wr.heap.size [.int .i64 x.lo.maj, .int .i64 x.lo.min, .int .i64 x.lo.pat, .slice a1 x.lo.pre.length c1, .int .i64 x.hi.maj, .int .i64 x.hi.min, .int .i64 x.hi.pat, .slice b1 x.hi.pre.length d1, .bool true] 101)).bw hb
        clear hb
        have s5 := B5.size
        clear Oc Of Ol Rc Rf Rl Lc Lf Ll Xc Xf Xl
        have ⟨Oc, Of, Ol⟩ := O
        have ⟨Rc, Rf, Rl⟩ := R
        have ⟨Lc, Lf, Ll⟩ := L
        have ⟨Xc, Xf, Xl⟩ := X
        have ⟨Yc, Yf, Yl⟩ := Y
        clear CO e0 e1 e2 e3 e4 e5 e6 e7 e8
        have QY : IvQ w5 (fun b => 0 ≤ b ∧ some b ≠ (Value.slice o n c').ownBlock) ⟨low, x.lo, false⟩ [.int .i64 low.maj, .int .i64 low.min, .int .i64 low.pat, .slice la low.pre.length lc, .int .i64 x.lo.maj, .int .i64 x.lo.min, .int .i64 x.lo.pat, .slice a1 x.lo.pre.length c1, .bool false] := ⟨la, a1, lc, c1, rfl, VL.out, VA.out, SlQ.off OW rfl (Nat.le_succ _) QL.out, SlQ.off OW rfl (by omega) QA.out⟩
        have hlt6 : ∀ g, (Value.slice o n c').ownBlock = some g → g < wr.heap.size := HGW.out
        go_wp2_with (at_builtin; go_loud (refine ap1r (by rfl) (by rfl) (by rfl) OW (c := 1) (C := [.int .i64 low.maj, .int .i64 low.min, .int .i64 low.pat, .slice la low.pre.length lc, .int .i64 x.lo.maj, .int .i64 x.lo.min, .int .i64 x.lo.pat, .slice a1 x.lo.pre.length c1, .bool false]) (by rfl) QY (by omega) (by omega) ?_); intro v6 w6 NEW hg6 hb6 hs6; have hlt5 := own_lt OW; replace VL := Hd (VL.out.grown hg6 ((SlQ.off OW rfl (Nat.le_succ _) QL.out).mono fun _ h => h.2)); replace VA := Hd (VA.out.grown hg6 ((SlQ.off OW rfl (by omega) QA.out).mono fun _ h => h.2)); replace VB := Hd (VB.out.grown hg6 ((SlQ.off OW rfl (by omega) QB.out).mono fun _ h => h.2)); replace O := O.below hb6 (by omega); replace R := R.below hb6 (by omega); replace L := L.below hb6 (by omega); replace X := X.below hb6 (by omega); have q6 := hb6.size; replace Y := Y.grown hg6 (fun g hg => by have := hlt6 g hg; omega); have B6 : Below w.heap.size w w6 := bcall B5 hb6 (by omega); obtain ⟨o6, c6, rfl⟩ := NEW.slice; clear hg6 hb6 OW QY hlt5 hlt6 Oc Of Ol Rc Rf Rl Lc Lf Ll Xc Xf Xl Yc Yf Yl; obtain ⟨Oc, Of, Ol⟩ := id O; obtain ⟨Yc, Yf, Yl⟩ := id Y; obtain ⟨Lc, Lf, Ll⟩ := id L; obtain ⟨Rc, Rf, Rl⟩ := id R; obtain ⟨Xc, Xf, Xl⟩ := id X)
        have RN := ((R.fr (w.heap.size + 1 + 1) 0 (by omega) (.slice o6 (n + 1) c6)).st 0 (.slice o6 (n + 1) c6))
        obtain ⟨RNc, RNf, RNl⟩ := RN
        have FIN := (NEW.far (by simp; omega) (O.c 0) (by nofun) (.slice o6 (n + 1) c6)).far (p := ⟨w.heap.size + 1, 0, none⟩) (by dsimp only; omega) ((R.fr (w.heap.size + 1 + 1) 0 (by omega) (.slice o6 (n + 1) c6)).c 0) (by nofun) (.slice o6 (n + 1) c6)
        have hfl := FIN.len
        rw [E.out] at hfl FIN
        have FIR := FIN.rin
        refine bodyPost_ret (v := .agg #[.slice o6 (n + 1) c6]) (by simp [results, Tryz.results30, go_sem, RNc]) rfl ⟨o6, c6, by rw [hfl], FIR, by go_grown⟩
      · have t1 := decF k0
        rw [if_neg k0, List.append_nil] at E
        clear k0 hu hK
        have ⟨Oc, Of, Ol⟩ := O
        have ⟨Rc, Rf, Rl⟩ := R
        have ⟨Lc, Lf, Ll⟩ := L
        have ⟨Xc, Xf, Xl⟩ := X
        go_wp2_with fail
        refine (CO.out _ (VL.out.bl (by go_grown)) (VA.out.bl (by go_grown))).mono ?_
        rintro e w5 ⟨rfl, hb⟩
        replace OW := (OW.alloc _).bl hb
        have B5 := bcm w hb
        have q5 : wr.heap.size + 1 ≤ w5.heap.size := qle hb
        replace VL := Hd ((VL.out.al _).bl hb)
        replace VA := Hd ((VA.out.al _).bl hb)
        replace VB := Hd ((VB.out.al _).bl hb)
        replace O := ((O.alloc _)).bw hb
        replace R := ((R.alloc _)).bw hb
        replace L := ((L.alloc _)).bw hb
        replace X := ((X.alloc _)).bw hb
        have Y := ((bkn wr.heap.size [.int .i64 x.lo.maj, .int .i64 x.lo.min, .int .i64 x.lo.pat, .slice a1 x.lo.pre.length c1, .int .i64 x.hi.maj, .int .i64 x.hi.min, .int .i64 x.hi.pat, .slice b1 x.hi.pre.length d1, .bool true] 101)).bw hb
        clear hb
        have s5 := B5.size
        clear Oc Of Ol Rc Rf Rl Lc Lf Ll Xc Xf Xl
        have ⟨Oc, Of, Ol⟩ := O
        have ⟨Rc, Rf, Rl⟩ := R
        have ⟨Lc, Lf, Ll⟩ := L
        have ⟨Xc, Xf, Xl⟩ := X
        have ⟨Yc, Yf, Yl⟩ := Y
        clear CO e0 e1 e2 e3 e4 e5 e6 e7 e8
        go_wp2_with fail
        have RN := (R.st 0 (.slice o (n) c'))
        obtain ⟨RNc, RNf, RNl⟩ := RN
        have FIN := OW.far (p := ⟨w.heap.size + 1, 0, none⟩) (by dsimp only; omega) (R.c 0) (by nofun) (.slice o (n) c')
        have hfl := FIN.len
        rw [E.out] at hfl FIN
        have FIR := FIN.rin
        refine bodyPost_ret (v := .agg #[.slice o (n) c']) (by simp [results, Tryz.results30, go_sem, RNc]) rfl ⟨o, c', by rw [hfl], FIR, by go_grown⟩
    | false =>
      rw [hu] at e8
      have E := Hd (ST.out.2 hu)
      clear ST
      by_cases k0 : K < 0
      · have t1 := decT k0
        rw [if_pos k0] at E
        clear k0 hu hK
        have ⟨Oc, Of, Ol⟩ := O
        have ⟨Rc, Rf, Rl⟩ := R
        have ⟨Lc, Lf, Ll⟩ := L
        have ⟨Xc, Xf, Xl⟩ := X
        go_wp2_with fail
        refine (CO.out _ (VL.out.bl (by go_grown)) (VA.out.bl (by go_grown))).mono ?_
        rintro e w5 ⟨rfl, hb⟩
        replace OW := (OW.alloc _).bl hb
        have B5 := bcm w hb
        have q5 : wr.heap.size + 1 ≤ w5.heap.size := qle hb
        replace VL := Hd ((VL.out.al _).bl hb)
        replace VA := Hd ((VA.out.al _).bl hb)
        replace VB := Hd ((VB.out.al _).bl hb)
        replace O := ((O.alloc _)).bw hb
        replace R := ((R.alloc _)).bw hb
        replace L := ((L.alloc _)).bw hb
        replace X := ((X.alloc _)).bw hb
        have Y := ((bkn wr.heap.size [.int .i64 x.lo.maj, .int .i64 x.lo.min, .int .i64 x.lo.pat, .slice a1 x.lo.pre.length c1, .int .i64 x.hi.maj, .int .i64 x.hi.min, .int .i64 x.hi.pat, .slice b1 x.hi.pre.length d1, .bool false] 101)).bw hb
        clear hb
        have s5 := B5.size
        clear Oc Of Ol Rc Rf Rl Lc Lf Ll Xc Xf Xl
        have ⟨Oc, Of, Ol⟩ := O
        have ⟨Rc, Rf, Rl⟩ := R
        have ⟨Lc, Lf, Ll⟩ := L
        have ⟨Xc, Xf, Xl⟩ := X
        have ⟨Yc, Yf, Yl⟩ := Y
        clear CO e0 e1 e2 e3 e4 e5 e6 e7 e8
        have QY : IvQ w5 (fun b => 0 ≤ b ∧ some b ≠ (Value.slice o n c').ownBlock) ⟨low, x.lo, false⟩ [.int .i64 low.maj, .int .i64 low.min, .int .i64 low.pat, .slice la low.pre.length lc, .int .i64 x.lo.maj, .int .i64 x.lo.min, .int .i64 x.lo.pat, .slice a1 x.lo.pre.length c1, .bool false] := ⟨la, a1, lc, c1, rfl, VL.out, VA.out, SlQ.off OW rfl (Nat.le_succ _) QL.out, SlQ.off OW rfl (by omega) QA.out⟩
        have hlt6 : ∀ g, (Value.slice o n c').ownBlock = some g → g < wr.heap.size := HGW.out
        go_wp2_with (at_builtin; go_loud (refine ap1r (by rfl) (by rfl) (by rfl) OW (c := 1) (C := [.int .i64 low.maj, .int .i64 low.min, .int .i64 low.pat, .slice la low.pre.length lc, .int .i64 x.lo.maj, .int .i64 x.lo.min, .int .i64 x.lo.pat, .slice a1 x.lo.pre.length c1, .bool false]) (by rfl) QY (by omega) (by omega) ?_); intro v6 w6 NEW hg6 hb6 hs6; have hlt5 := own_lt OW; replace VL := Hd (VL.out.grown hg6 ((SlQ.off OW rfl (Nat.le_succ _) QL.out).mono fun _ h => h.2)); replace VA := Hd (VA.out.grown hg6 ((SlQ.off OW rfl (by omega) QA.out).mono fun _ h => h.2)); replace VB := Hd (VB.out.grown hg6 ((SlQ.off OW rfl (by omega) QB.out).mono fun _ h => h.2)); replace O := O.below hb6 (by omega); replace R := R.below hb6 (by omega); replace L := L.below hb6 (by omega); replace X := X.below hb6 (by omega); have q6 := hb6.size; replace Y := Y.grown hg6 (fun g hg => by have := hlt6 g hg; omega); have B6 : Below w.heap.size w w6 := bcall B5 hb6 (by omega); obtain ⟨o6, c6, rfl⟩ := NEW.slice; clear hg6 hb6 OW QY hlt5 hlt6 Oc Of Ol Rc Rf Rl Lc Lf Ll Xc Xf Xl Yc Yf Yl; obtain ⟨Oc, Of, Ol⟩ := id O; obtain ⟨Yc, Yf, Yl⟩ := id Y; obtain ⟨Lc, Lf, Ll⟩ := id L; obtain ⟨Rc, Rf, Rl⟩ := id R; obtain ⟨Xc, Xf, Xl⟩ := id X)
        have FO := (((((O.st 0 (.slice o6 (n + 1) c6)).fr w1.heap.size 0 (by omega) (.int .i64 x.hi.maj)).fr w1.heap.size 1 (by omega) (.int .i64 x.hi.min)).fr w1.heap.size 2 (by omega) (.int .i64 x.hi.pat)).fr w1.heap.size 3 (by omega) (.slice b1 x.hi.pre.length d1))
        have FL := (((((L.fr (w.heap.size + 1 + 1) 0 (by omega) (.slice o6 (n + 1) c6)).st 0 (.int .i64 x.hi.maj)).st 1 (.int .i64 x.hi.min)).st 2 (.int .i64 x.hi.pat)).st 3 (.slice b1 x.hi.pre.length d1))
        have FR := (((((R.fr (w.heap.size + 1 + 1) 0 (by omega) (.slice o6 (n + 1) c6)).fr w1.heap.size 0 (by omega) (.int .i64 x.hi.maj)).fr w1.heap.size 1 (by omega) (.int .i64 x.hi.min)).fr w1.heap.size 2 (by omega) (.int .i64 x.hi.pat)).fr w1.heap.size 3 (by omega) (.slice b1 x.hi.pre.length d1))
        have FV := (((((VB.out.setNS (O.c 0) (by nofun) (.slice o6 (n + 1) c6)).setNS ((L.fr (w.heap.size + 1 + 1) 0 (by omega) (.slice o6 (n + 1) c6)).c 0) (by nofun) (.int .i64 x.hi.maj)).setNS (((L.fr (w.heap.size + 1 + 1) 0 (by omega) (.slice o6 (n + 1) c6)).st 0 (.int .i64 x.hi.maj)).c 1) (by nofun) (.int .i64 x.hi.min)).setNS ((((L.fr (w.heap.size + 1 + 1) 0 (by omega) (.slice o6 (n + 1) c6)).st 0 (.int .i64 x.hi.maj)).st 1 (.int .i64 x.hi.min)).c 2) (by nofun) (.int .i64 x.hi.pat)).setNS (((((L.fr (w.heap.size + 1 + 1) 0 (by omega) (.slice o6 (n + 1) c6)).st 0 (.int .i64 x.hi.maj)).st 1 (.int .i64 x.hi.min)).st 2 (.int .i64 x.hi.pat)).c 3) (by nofun) (.slice b1 x.hi.pre.length d1))
        have FOW := (((((NEW.far (by simp; omega) (O.c 0) (by nofun) (.slice o6 (n + 1) c6)).far (p := ⟨w1.heap.size, 0, none⟩) (by dsimp only; omega) ((L.fr (w.heap.size + 1 + 1) 0 (by omega) (.slice o6 (n + 1) c6)).c 0) (by nofun) (.int .i64 x.hi.maj)).far (p := ⟨w1.heap.size, 1, none⟩) (by dsimp only; omega) (((L.fr (w.heap.size + 1 + 1) 0 (by omega) (.slice o6 (n + 1) c6)).st 0 (.int .i64 x.hi.maj)).c 1) (by nofun) (.int .i64 x.hi.min)).far (p := ⟨w1.heap.size, 2, none⟩) (by dsimp only; omega) ((((L.fr (w.heap.size + 1 + 1) 0 (by omega) (.slice o6 (n + 1) c6)).st 0 (.int .i64 x.hi.maj)).st 1 (.int .i64 x.hi.min)).c 2) (by nofun) (.int .i64 x.hi.pat)).far (p := ⟨w1.heap.size, 3, none⟩) (by dsimp only; omega) (((((L.fr (w.heap.size + 1 + 1) 0 (by omega) (.slice o6 (n + 1) c6)).st 0 (.int .i64 x.hi.maj)).st 1 (.int .i64 x.hi.min)).st 2 (.int .i64 x.hi.pat)).c 3) (by nofun) (.slice b1 x.hi.pre.length d1))
        have FX := (((((X.fr (w.heap.size + 1 + 1) 0 (by omega) (.slice o6 (n + 1) c6)).fr w1.heap.size 0 (by omega) (.int .i64 x.hi.maj)).fr w1.heap.size 1 (by omega) (.int .i64 x.hi.min)).fr w1.heap.size 2 (by omega) (.int .i64 x.hi.pat)).fr w1.heap.size 3 (by omega) (.slice b1 x.hi.pre.length d1))
        go_roundw
        case rel => exact ⟨k + 1, hlt2, by go_num, o6, n + 1, c6, x.hi, b1, d1, _, FO, FOW, FL, FV, QB.out.mono (fun b hb => by omega), OX.out.hi, by go_grown, FR, by simp; omega, E.out, by omega, FX⟩
        case measure => simp [intOf]; omega
      · have t1 := decF k0
        rw [if_neg k0, List.append_nil] at E
        clear k0 hu hK
        have ⟨Oc, Of, Ol⟩ := O
        have ⟨Rc, Rf, Rl⟩ := R
        have ⟨Lc, Lf, Ll⟩ := L
        have ⟨Xc, Xf, Xl⟩ := X
        go_wp2_with fail
        refine (CO.out _ (VL.out.bl (by go_grown)) (VA.out.bl (by go_grown))).mono ?_
        rintro e w5 ⟨rfl, hb⟩
        replace OW := (OW.alloc _).bl hb
        have B5 := bcm w hb
        have q5 : wr.heap.size + 1 ≤ w5.heap.size := qle hb
        replace VL := Hd ((VL.out.al _).bl hb)
        replace VA := Hd ((VA.out.al _).bl hb)
        replace VB := Hd ((VB.out.al _).bl hb)
        replace O := ((O.alloc _)).bw hb
        replace R := ((R.alloc _)).bw hb
        replace L := ((L.alloc _)).bw hb
        replace X := ((X.alloc _)).bw hb
        have Y := ((bkn wr.heap.size [.int .i64 x.lo.maj, .int .i64 x.lo.min, .int .i64 x.lo.pat, .slice a1 x.lo.pre.length c1, .int .i64 x.hi.maj, .int .i64 x.hi.min, .int .i64 x.hi.pat, .slice b1 x.hi.pre.length d1, .bool false] 101)).bw hb
        clear hb
        have s5 := B5.size
        clear Oc Of Ol Rc Rf Rl Lc Lf Ll Xc Xf Xl
        have ⟨Oc, Of, Ol⟩ := O
        have ⟨Rc, Rf, Rl⟩ := R
        have ⟨Lc, Lf, Ll⟩ := L
        have ⟨Xc, Xf, Xl⟩ := X
        have ⟨Yc, Yf, Yl⟩ := Y
        clear CO e0 e1 e2 e3 e4 e5 e6 e7 e8
        go_wp2_with fail
        have FO := (Bk.frs w1.heap.size [(0, .int .i64 x.hi.maj), (1, .int .i64 x.hi.min), (2, .int .i64 x.hi.pat), (3, .slice b1 x.hi.pre.length d1)] O)
        have FL := ((((L.st 0 (.int .i64 x.hi.maj)).st 1 (.int .i64 x.hi.min)).st 2 (.int .i64 x.hi.pat)).st 3 (.slice b1 x.hi.pre.length d1))
        have FR := (Bk.frs w1.heap.size [(0, .int .i64 x.hi.maj), (1, .int .i64 x.hi.min), (2, .int .i64 x.hi.pat), (3, .slice b1 x.hi.pre.length d1)] R)
        have FV := (VIn.sets [(0, .int .i64 x.hi.maj), (1, .int .i64 x.hi.min), (2, .int .i64 x.hi.pat), (3, .slice b1 x.hi.pre.length d1)] VB.out L)
        have FOW := ((((OW.far (p := ⟨w1.heap.size, 0, none⟩) (by dsimp only; omega) (L.c 0) (by nofun) (.int .i64 x.hi.maj)).far (p := ⟨w1.heap.size, 1, none⟩) (by dsimp only; omega) ((L.st 0 (.int .i64 x.hi.maj)).c 1) (by nofun) (.int .i64 x.hi.min)).far (p := ⟨w1.heap.size, 2, none⟩) (by dsimp only; omega) (((L.st 0 (.int .i64 x.hi.maj)).st 1 (.int .i64 x.hi.min)).c 2) (by nofun) (.int .i64 x.hi.pat)).far (p := ⟨w1.heap.size, 3, none⟩) (by dsimp only; omega) ((((L.st 0 (.int .i64 x.hi.maj)).st 1 (.int .i64 x.hi.min)).st 2 (.int .i64 x.hi.pat)).c 3) (by nofun) (.slice b1 x.hi.pre.length d1))
        have FX := (Bk.frs w1.heap.size [(0, .int .i64 x.hi.maj), (1, .int .i64 x.hi.min), (2, .int .i64 x.hi.pat), (3, .slice b1 x.hi.pre.length d1)] X)
        go_roundw
        case rel => exact ⟨k + 1, hlt2, by go_num, o, n, c', x.hi, b1, d1, _, FO, FOW, FL, FV, QB.out.mono (fun b hb => by omega), OX.out.hi, by go_grown, FR, by simp; omega, E.out, by omega, FX⟩
        case measure => simp [intOf]; omega
  · skip
    have E := Hd (Pl.inv_end (by omega) EQ.out)
    have t2 : decide ((k : Int) < (r.length : Int)) = false := by simp; omega
    have t3 : decide (k < r.length) = false := by simp; omega
    clear EQ
    have ⟨Oc, Of, Ol⟩ := O
    have ⟨Rc, Rf, Rl⟩ := R
    have ⟨Lc, Lf, Ll⟩ := L
    have ⟨Xc, Xf, Xl⟩ := X
    have QY : IvQ wr (fun b => 0 ≤ b ∧ some b ≠ (Value.slice o n c').ownBlock) ⟨low, Pl.Ver.zero, true⟩ [.int .i64 low.maj, .int .i64 low.min, .int .i64 low.pat, .slice la low.pre.length lc, .int .i64 0, .int .i64 0, .int .i64 0, .slice none 0 0, .bool true] := ⟨la, none, lc, 0, rfl, VL.out, VIn.zero _, SlQ.off OW rfl (Nat.le_succ _) QL.out, .inl rfl⟩
    go_wp2_with (at_builtin; go_loud (refine ap1r (by rfl) (by rfl) (by rfl) OW (c := 1) (C := [.int .i64 low.maj, .int .i64 low.min, .int .i64 low.pat, .slice la low.pre.length lc, .int .i64 0, .int .i64 0, .int .i64 0, .slice none 0 0, .bool true]) (by rfl) QY (by omega) (by omega) ?_); intro v6 w6 NEW hg6 hb6 hs6; replace O := O.below hb6 (by omega); replace R := R.below hb6 (by omega); have B6 : Below w.heap.size w w6 := bcall B1 hb6 (by omega); obtain ⟨o6, c6, rfl⟩ := NEW.slice; clear hg6 hb6 OW QY Oc Of Ol Rc Rf Rl Lc Lf Ll Xc Xf Xl; obtain ⟨Oc, Of, Ol⟩ := id O; obtain ⟨Rc, Rf, Rl⟩ := id R)
    have FIN := NEW.far (p := ⟨w.heap.size + 1 + 1, 0, none⟩) (by dsimp only; omega) (O.c 0) (by nofun) (.slice o6 (n + 1) c6)
    rw [E.out] at FIN
    have hfl := FIN.len
    have R1 := R.fr (w.heap.size + 1 + 1) 0 (by omega) (.slice o6 (n + 1) c6)
    have RN := R1.st 0 (.slice o6 (n + 1) c6)
    obtain ⟨RNc, RNf, RNl⟩ := RN
    refine bodyPost_ret (v := .agg #[.slice o6 (n + 1) c6]) (by simp [results, Tryz.results30, go_sem, RNc]) rfl ⟨o6, c6, by rw [hfl], (FIN.far (p := ⟨w.heap.size + 1, 0, none⟩) (by dsimp only; omega) (R1.c 0) (by nofun) _).rin, by go_grown⟩
end
end Go.Proofs.YtolfgcoalihmgaaGreatDoor
