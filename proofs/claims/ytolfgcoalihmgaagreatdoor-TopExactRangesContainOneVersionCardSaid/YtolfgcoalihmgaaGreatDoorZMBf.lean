/- Texts joined. -/
import Derived.Test.YtolfgcoalihmgaaGreatDoorZMKe
import Derived.Test.YtolfgcoalihmgaaGreatDoorZMKb
namespace Go.Proofs.YtolfgcoalihmgaaGreatDoor
section
open Go.RowKit
theorem Box2.under {w w' : World} {r : Nat} {x y : Value} (h : Box2 w r x y) (hx : Ext w w') : Box2 w' r x y :=
 ⟨hx.cell _ _ h.c0, hx.cell _ _ h.c1, (hx.frozen _ _ h.c0).trans h.f0, (hx.frozen _ _ h.c1).trans h.f1, Nat.lt_of_lt_of_le h.lt hx.size⟩
structure Hold where
 R : Value → World → Prop
 st : ∀ v w w', R v w → Ext w w' → R v w'
def Hold.any : Hold := ⟨fun _ _ => True, fun _ _ _ _ _ => trivial⟩
def Hold.eq (v : Value) : Hold := ⟨fun u _ => u = v, fun _ _ _ h _ => h⟩
def Hold.sl (n sz : Nat) (cs : List Value) : Hold := ⟨fun u w => ∃ oa c, u = .slice oa n c ∧ Sl w oa n c sz cs, fun _ _ _ ⟨oa, c, h1, h2⟩ hb => ⟨oa, c, h1, h2.under hb⟩⟩
def Hold.box (B : Nat) (x y : Value) : Hold := ⟨fun u w => ∃ r, u = .pointer (some ⟨r, 0, none⟩) ∧ B ≤ r ∧ Box2 w r x y, fun _ _ _ ⟨r, h1, h2, h3⟩ hb => ⟨r, h1, h2, h3.under hb⟩⟩
def actOf (x : Nat → Value) : List Oper → Nat → Act → Act
 | [], _, a => a
 | o :: l, k, a => actOf x l (k + 1) (a.put o.dst (x k))
def upd (x : Nat → Value) (i : Nat) (v : Value) : Nat → Value := fun j => if j = i then v else x j
def dstsOk : List Oper → Bool
 | [] => true
 | o :: l => (l.all fun o' => o.dst == none || o'.dst != o.dst) && dstsOk l
theorem actOf_congr {x y : Nat → Value} : ∀ (l : List Oper) (k : Nat) (a : Act), (∀ j, k ≤ j → x j = y j) → actOf x l k a = actOf y l k a
 | [], _, _, _ => rfl
 | o :: l, k, a, h => by
   simp only [actOf]
   rw [h k nle]
   exact actOf_congr l (k + 1) _ fun j hj => h j (by omega)
theorem actOf_put {x : Nat → Value} {d : Option Tmp} {v : Value} : ∀ (l : List Oper) (k : Nat) (a : Act), (∀ o ∈ l, ∀ e, d = some e → o.dst ≠ some e) → actOf x l k (a.put d v) = (actOf x l k a).put d v
 | [], _, _, _ => rfl
 | o :: l, k, a, h => by
   simp only [actOf]
   rw [Act.put_comm a v (x k) (fun e he => h o (by simp) e he)]
   exact actOf_put l (k + 1) _ fun o' ho' => h o' (by simp [ho'])
theorem put_put (a : Act) (d : Option Tmp) (u v : Value) : (a.put d u).put d v = a.put d v := by
 cases d with
 | none => rfl
 | some e => simp [Act.put]
theorem put_same (a : Act) (d : Tmp) : a.put (some d) (a.tmps.getD d undef) = a := by
 cases a with
 | mk tmps defers =>
   simp only [Act.put]
   congr 1
   apply Array.ext
   · simp
   · intro i h1 h2
     by_cases h : d = i
     · subst h; simp [Array.getD, h2]
     · exact Array.getElem_setIfInBounds_ne h2 h
theorem actOf_upd {x : Nat → Value} {v : Value} : ∀ (l : List Oper) (k : Nat) (a : Act) (i : Nat) (o : Oper), dstsOk l = true → l[i]? = some o → (actOf x l k a).put o.dst v = actOf (upd x (k + i) v) l k a
 | [], _, _, _, _, _, h => by simp at h
 | o' :: l, k, a, 0, o, hd, h => by
   obtain rfl : o' = o := by simpa using h
   simp only [dstsOk, Bool.and_eq_true, List.all_eq_true, Bool.or_eq_true, beq_iff_eq, bne_iff_ne] at hd
   simp only [actOf]
   rw [← actOf_put l (k + 1) _ (fun o2 ho2 e he => by
    rcases hd.1 o2 ho2 with h1 | h1
    · rw [h1] at he; cases he
    · rw [he] at h1; exact h1), put_put]
   have e : upd x (k + 0) v k = v := by simp [upd]
   rw [e]
   exact actOf_congr l (k + 1) _ fun j hj => by simp [upd]; omega
 | o' :: l, k, a, i + 1, o, hd, h => by
   simp only [dstsOk, Bool.and_eq_true] at hd
   simp only [actOf]
   have e : upd x (k + (i + 1)) v k = x k := by simp [upd]
   rw [e, actOf_upd l (k + 1) _ i o hd.2 (by simpa using h), show k + 1 + i = k + (i + 1) by omega]
section theory
variable {P : Program} {l : List Oper} {md : Region.Mode}
def freeFrom (md : Region.Mode) (ops : Array Oper) (S T tail : List Nat) : Nat → Array Bool → Bool
 | 0, listed => (S ++ T).all (fun i => listed.getD i false) && tail.length == 0 && ordFrom md ops tail listed
 | n + 1, listed =>
   if (S ++ T).all (fun i => listed.getD i false) then tail.length == n + 1 && ordFrom md ops tail listed
   else match T.find? (fun i => (Region.ready md ops listed).contains i) with
    | some i => rdAt ops i && Region.free md ops listed i && noSt md ops listed i && freeFrom md ops S T tail n (listed.setIfInBounds i true)
    | none => !(Region.ready md ops listed).isEmpty && (Region.ready md ops listed).all fun i => S.contains i && freeFrom md ops S T tail n (listed.setIfInBounds i true)
theorem wpAnyE_free {Q : Act → World → Prop} (hsel : Region.noSelect l.toArray = true) (hd : dstsOk l = true) (hs : Nat → Hold) (w0 : World) (a0 : Act) (S T tail : List Nat)
 (hstep : ∀ i ∈ S ++ T, ∀ o, l[i]? = some o → ∀ x w, Below w0.heap.size w0 w → (∀ e ∈ o.after, Region.binds md e = true → (hs e.on).R (x e.on) w) →
   eOp P l.toArray i (fun a' w' => (Ext w w' ∧ Below w0.heap.size w0 w') ∧ ∃ v, a' = (actOf x l 0 a0).put o.dst v ∧ (hs i).R v w') (actOf x l 0 a0) w)
 (hfin : ∀ x w, Below w0.heap.size w0 w → (∀ i ∈ S ++ T, (hs i).R (x i) w) → wpI P l.toArray Q tail (actOf x l 0 a0) w) :
 ∀ (n : Nat) (listed : Array Bool) (x : Nat → Value) (w : World), Closed md l.toArray listed → freeFrom md l.toArray S T tail n listed = true → Below w0.heap.size w0 w → (∀ i, listed.getD i false = true → (hs i).R (x i) w) →
  wpAnyE P md l.toArray Q n listed (actOf x l 0 a0) w := by
 intro n
 induction n with
 | zero =>
   intro listed x w hcl hB hb hI
   simp only [freeFrom, Bool.and_eq_true, beq_iff_eq, List.all_eq_true] at hB
   have := wpAnyE_ord hsel tail listed _ w hcl hB.2 (hfin x w hb fun i hi => hI i (hB.1.1 i hi))
   rwa [hB.1.2] at this
 | succ n ih =>
   intro listed x w hcl hB hb hI
   rw [freeFrom] at hB
   split at hB
   · rename_i hall
     simp only [List.all_eq_true] at hall
     simp only [Bool.and_eq_true, beq_iff_eq] at hB
     have := wpAnyE_ord hsel tail listed _ w hcl hB.2 (hfin x w hb fun i hi => hI i (hall i hi))
     rwa [hB.1] at this
   · have next : ∀ i o v w', i ∈ Region.ready md l.toArray listed → l[i]? = some o → freeFrom md l.toArray S T tail n (listed.setIfInBounds i true) = true → (Ext w w' ∧ Below w0.heap.size w0 w') → (hs i).R v w' →
      wpAnyE P md l.toArray Q n (listed.setIfInBounds i true) ((actOf x l 0 a0).put o.dst v) w' := by
      intro i o v w' hir ho hB2 hb2 hv
      rw [actOf_upd l 0 a0 i o hd ho, Nat.zero_add]
      refine ih _ _ _ (hcl.set hir) hB2 hb2.2 fun j hj => ?_
      by_cases hji : j = i
      · subst hji; simpa [upd] using hv
      · have e : upd x i v j = x j := by simp [upd, hji]
        rw [e]
        exact (hs j).st _ _ _ (hI j (by rwa [getD_set_ne false (Ne.symm hji)] at hj)) hb2.1
     split at hB
     · rename_i i hfi
       simp only [Bool.and_eq_true] at hB
       have hi1 : i ∈ T := List.mem_of_find?_eq_some hfi
       have hi2 := List.find?_some hfi
       have hr : i ∈ Region.ready md l.toArray listed := by simpa using hi2
       obtain ⟨_, o, ho, haf⟩ := mem_ready.1 hr
       have ho' : l[i]? = some o := by simpa using ho
       have h1 := hstep i (by simp [hi1]) o ho' x w hb fun e he hbe => hI _ (haf e he hbe)
       have hrd := hB.1.1.1
       unfold rdAt at hrd
       simp only [ho] at hrd
       unfold eOp at h1
       simp only [ho] at h1
       by_cases hw : Region.wanted o (yielded l.toArray (actOf x l 0 a0).tmps) = true
       · simp only [hw, if_true] at h1
         rcases h1 with ⟨h1, _⟩ | ⟨_, v, h2, h3, v', h4, h5⟩ | ⟨h2, _⟩
         · rw [isSt_rd hrd] at h1; cases h1
         · refine wpAnyE_first ho (Region.noSelect_spec hsel) n listed _ w hcl (noSt_spec hB.1.2) (Region.free_spec ho hB.1.1.2) hr (.inl ⟨hw, hrd, h2⟩) ?_
           rw [h4]
           exact next i o v' w hr ho' hB.2 h3 h5
         · rw [hrd] at h2; cases h2
       · simp only [hw] at h1
         obtain ⟨h3, v', h4, h5⟩ := h1
         refine wpAnyE_first ho (Region.noSelect_spec hsel) n listed _ w hcl (noSt_spec hB.1.2) (Region.free_spec ho hB.1.1.2) hr (.inr ⟨by simpa using hw, rfl⟩) ?_
         rw [h4]
         exact next i o v' w hr ho' hB.2 h3 h5
     · simp only [Bool.and_eq_true, Bool.not_eq_true', List.isEmpty_eq_false_iff, List.all_eq_true, List.contains_iff_mem] at hB
       refine ⟨fun h0 => absurd h0 hB.1, fun i hi => ?_⟩
       obtain ⟨_, o, ho, haf⟩ := mem_ready.1 hi
       have ho' : l[i]? = some o := by simpa using ho
       have h1 := hstep i (by simp [(hB.2 i hi).1]) o ho' x w hb fun e he hbe => hI _ (haf e he hbe)
       refine eOp_mono ?_ h1
       rintro a' w' ⟨h3, v', rfl, h5⟩
       exact next i o v' w' hi ho' (hB.2 i hi).2 h3 h5
def depsOf (md : Region.Mode) (l : List Oper) (i : Nat) : List Nat := match l[i]? with | some o => (o.after.toList.filter (Region.binds md)).map (·.on) | none => []
def stepOb (P : Program) (l : List Oper) (hs : Nat → Hold) (w0 : World) (a0 : Act) (i : Nat) : Prop :=
 ∀ x w, Below w0.heap.size w0 w → (∀ j, (depsOf .any l i).contains j = true → (hs j).R (x j) w) →
  wpI P l.toArray (fun a' w' => (Ext w w' ∧ Below w0.heap.size w0 w') ∧ ∃ v, a' = (actOf x l 0 a0).put ((l[i]?.map (·.dst)).getD none) v ∧ (hs i).R v w') [i] (actOf x l 0 a0) w
def obAll (f : Nat → Prop) : List Nat → Prop
 | [] => True
 | i :: r => f i ∧ obAll f r
theorem obAll_mem {f : Nat → Prop} : ∀ {r : List Nat}, obAll f r → ∀ i ∈ r, f i
 | _ :: r, h, i, hi => by
   rcases List.mem_cons.1 hi with rfl | h2
   · exact h.1
   · exact obAll_mem h.2 i h2
def freeB (l : List Oper) (S T tail : List Nat) : Bool := Region.noSelect l.toArray && dstsOk l && freeFrom .any l.toArray S T tail l.length (Array.replicate l.length false)
theorem actOf_start : ∀ (l : List Oper) (k : Nat) (a : Act) (x : Nat → Value), (∀ i o d, l[i]? = some o → o.dst = some d → x (k + i) = a.tmps.getD d undef) → actOf x l k a = a
 | [], _, _, _, _ => rfl
 | o :: l, k, a, x, h => by
   have e : a.put o.dst (x k) = a := by
    cases hd : o.dst with
    | none => rfl
    | some d => rw [show x k = a.tmps.getD d undef from h 0 o d rfl hd]; exact put_same a d
   simp only [actOf]
   rw [e]
   exact actOf_start l (k + 1) a x fun i o' d h1 h2 => by rw [show k + 1 + i = k + (i + 1) by omega]; exact h (i + 1) o' d (by simpa using h1) h2
theorem wp_region_free {id : Nat} {Q : Exit → Act → World → Prop} {a : Act} {w : World} {l : List Oper} (S T tail : List Nat) (hs : Nat → Hold) (hm : P.follows .mixedOrders = true) (hB : freeB l S T tail = true)
 (hstep : obAll (stepOb P l hs w.drew a) (S ++ T))
 (hfin : ∀ x w', Below w.drew.heap.size w.drew w' → obAll (fun i => (hs i).R (x i) w') (S ++ T) → wpI P l.toArray (fun a' w' => Q .normal a' w') tail (actOf x l 0 a) w') : (Code.region id l.toArray true).wp P Q a w := by
 simp only [freeB, Bool.and_eq_true] at hB
 obtain ⟨⟨h1, h2⟩, h3⟩ := hB
 have h4 := wpAnyE_free (P := P) (Q := fun a' w' => Q .normal a' w') (md := .any) h1 h2 hs w.drew a S T tail (fun i hi o ho x w' hb hd => by
  have := obAll_mem hstep i hi x w' hb fun j hj => by
   rw [List.contains_iff_mem] at hj
   unfold depsOf at hj
   simp only [ho, List.mem_map, List.mem_filter] at hj
   obtain ⟨e, ⟨he1, he2⟩, rfl⟩ := hj
   exact hd e (by simpa using he1) he2
  simp only [ho, Option.map_some, Option.getD_some] at this
  rw [wpI_cons_eq, wpI_nil_eq] at this
  exact this) (fun x w' hb hI => hfin x w' hb (by
   have : ∀ r : List Nat, (∀ i ∈ r, (hs i).R (x i) w') → obAll (fun i => (hs i).R (x i) w') r := by
    intro r
    induction r with
    | nil => intro _; trivial
    | cons i r ih => intro h; exact ⟨h i (by simp), ih fun j hj => h j (by simp [hj])⟩
   exact this _ hI)) l.length (Array.replicate l.length false)
  (fun i => match l[i]? with | some o => (match o.dst with | some d => a.tmps.getD d undef | none => undef) | none => undef) w.drew Closed.start h3 (Below.refl _ _) (fun i hi => by
   exfalso
   by_cases h : i < l.length
   · simp [h] at hi
   · simp [h] at hi)
 rw [actOf_start l 0 a _ fun i o d h1 h2 => by simp [h1, h2]] at h4
 have e : l.length = l.toArray.size := by simp
 rw [e] at h4
 exact wp_region_any hm (wpAny_of_E (Q := fun a' w' => Q .normal a' w') (fun _ _ h => h) _ _ _ _ h4)
theorem actOf_tmp {x : Nat → Value} : ∀ (l : List Oper) (k : Nat) (a : Act) (j : Nat) (o : Oper) (d : Tmp), dstsOk l = true → l[j]? = some o → o.dst = some d → d < a.tmps.size → (actOf x l k a).tmps.getD d undef = x (k + j)
 | [], _, _, _, _, _, _, h, _, _ => by simp at h
 | o' :: l, k, a, 0, o, d, hd, h, ho, hsz => by
   obtain rfl : o' = o := by simpa using h
   have h2 := actOf_upd (x := x) (v := x k) (o' :: l) k a 0 o' hd rfl
   simp only [dstsOk, Bool.and_eq_true, List.all_eq_true, Bool.or_eq_true, beq_iff_eq, bne_iff_ne] at hd
   simp only [actOf]
   rw [actOf_put l (k + 1) a (fun o2 ho2 e he => by
    rcases hd.1 o2 ho2 with h1 | h1
    · rw [h1] at he; cases he
    · rw [he] at h1; exact h1), ho]
   have hs2 : ∀ (l : List Oper) (k : Nat) (a : Act), (actOf x l k a).tmps.size = a.tmps.size := by
    intro l
    induction l with
    | nil => intro _ _; rfl
    | cons o l ih => intro k a; simp only [actOf]; rw [ih]; cases o.dst <;> simp [Act.put]
   simp only [Act.put, Nat.add_zero]
   rw [Array.getD_eq_getD_getElem?, Array.getElem?_setIfInBounds_self_of_lt (by rw [hs2]; exact hsz)]
   rfl
 | o' :: l, k, a, j + 1, o, d, hd, h, ho, hsz => by
   simp only [dstsOk, Bool.and_eq_true] at hd
   simp only [actOf]
   rw [actOf_tmp l (k + 1) _ j o d hd.2 (by simpa using h) ho (by cases o'.dst <;> simpa [Act.put] using hsz), show k + 1 + j = k + (j + 1) by omega]
theorem actOf_old {x : Nat → Value} : ∀ (l : List Oper) (k : Nat) (a : Act) (d : Tmp), (l.all fun o => o.dst != some d) = true → (actOf x l k a).tmps.getD d undef = a.tmps.getD d undef
 | [], _, _, _, _ => rfl
 | o :: l, k, a, d, h => by
   simp only [List.all_cons, Bool.and_eq_true, bne_iff_ne] at h
   simp only [actOf]
   rw [actOf_old l (k + 1) _ d (by simpa using h.2)]
   cases ho : o.dst with
   | none => rfl
   | some e =>
     have hne : e ≠ d := by intro h2; exact h.1 (by rw [ho, h2])
     simp only [Act.put]
     rw [Array.getD_eq_getD_getElem?, Array.getElem?_setIfInBounds_ne hne, Array.getD_eq_getD_getElem?]
theorem setCell_id {w : World} {p : Addr} {v : Value} (h : w.cell? p = some v) : w.setCell p v = w := by
 have e : (w.setCell p v).heap = w.heap := by
  apply Array.ext
  · simp [World.setCell]
  · intro i h1 h2
    simp only [World.setCell, Array.getElem_modify]
    by_cases hi : p.block = i
    · subst hi
      simp only [if_true]
      unfold World.cell? at h
      rw [Array.getElem?_eq_getElem h2] at h
      cases hb : w.heap[p.block] with
      | cells c e fr =>
        rw [hb] at h
        simp only at h ⊢
        split
        · rfl
        · rename_i hs
          rw [if_neg hs] at h
          have : c.setIfInBounds p.off v = c := by
           obtain ⟨hl, hv⟩ := Array.getElem?_eq_some_iff.1 h
           subst hv
           apply Array.ext
           · simp
           · intro k g1 g2
             rw [Array.getElem_setIfInBounds]
             split
             · rename_i e; subst e; rfl
             · rfl
          rw [this]
      | _ => rfl
    · simp [hi]
 have e2 : w.setCell p v = { w with heap := (w.setCell p v).heap } := rfl
 rw [e2, e]
structure Frame (l : List Oper) (x : Nat → Value) (a0 A : Act) : Prop where
 tmp : ∀ (j : Nat) (o : Oper) (d : Tmp), l[j]? = some o → o.dst = some d → d < a0.tmps.size → A.tmps.getD d undef = x j
 old : ∀ (d : Tmp), (l.all fun o => o.dst != some d) = true → A.tmps.getD d undef = a0.tmps.getD d undef
theorem Frame.get {x : Nat → Value} {a0 A : Act} (F : Frame l x a0 A) {d : Tmp} {v : Value} (j : Nat) {o : Oper} (h1 : l[j]? = some o) (h2 : o.dst = some d) (h3 : d < a0.tmps.size) (hv : x j = v) : A.tmps.getD d undef = v ∧ A.tmps[d]?.getD undef = v := by
 have := (F.tmp j o d h1 h2 h3).trans hv
 exact ⟨this, by rwa [Array.getD_eq_getD_getElem?] at this⟩
theorem Frame.was {x : Nat → Value} {a0 A : Act} (F : Frame l x a0 A) {d : Tmp} {v : Value} (h : (l.all fun o => o.dst != some d) = true) (hv : a0.tmps.getD d undef = v) : A.tmps.getD d undef = v ∧ A.tmps[d]?.getD undef = v := by
 have := (F.old d h).trans hv
 exact ⟨this, by rwa [Array.getD_eq_getD_getElem?] at this⟩
def rdOb (P : Program) (l : List Oper) (hs : Nat → Hold) (w0 : World) (a0 : Act) (i : Nat) : Prop :=
 ∀ (A : Act) (x : Nat → Value) (w : World), Frame l x a0 A → Below w0.heap.size w0 w → (∀ j, (depsOf .any l i).contains j = true → (hs j).R (x j) w) →
  ∃ o v, l[i]? = some o ∧ (∀ w', Ext w w' → (execOp A.eval o).run P w' = .ok (.value v) w') ∧ (hs i).R v w
def mkOb (P : Program) (l : List Oper) (hs : Nat → Hold) (w0 : World) (a0 : Act) (i : Nat) : Prop :=
 ∀ (A : Act) (x : Nat → Value) (w : World), Frame l x a0 A → Below w0.heap.size w0 w → (∀ j, (depsOf .any l i).contains j = true → (hs j).R (x j) w) →
  ∃ o v w', l[i]? = some o ∧ (execOp A.eval o).run P w = .ok (.value v) w' ∧ Ext w w' ∧ Below w0.heap.size w0 w' ∧ (hs i).R v w'
def caOb (P : Program) (l : List Oper) (hs : Nat → Hold) (w0 : World) (a0 : Act) (i : Nat) : Prop :=
 ∀ (A : Act) (x : Nat → Value) (w : World), Frame l x a0 A → Below w0.heap.size w0 w → (∀ j, (depsOf .any l i).contains j = true → (hs j).R (x j) w) →
  ∃ o f args, l[i]? = some o ∧ (execOp A.eval o).run P w = .ok (.enter f args) w ∧ Calls P f args w fun e w' => ∃ v, e = .returned v ∧ Below w.heap.size w w' ∧ (hs i).R v w'
def kindB (l : List Oper) (i : Nat) (rd : Bool) : Bool := match l[i]? with | some o => isRd o.op == rd && o.guard == none | none => false
theorem kindB_spec {l : List Oper} {i : Nat} {rd : Bool} {o : Oper} (h : kindB l i rd = true) (ho : l[i]? = some o) : isRd o.op = rd ∧ o.guard = none := by
 unfold kindB at h
 rw [ho] at h
 simpa using h
theorem wanted_none {o : Oper} (h : o.guard = none) {ops : Array Oper} {t : Array Value} : Region.wanted o (yielded ops t) = true := by unfold Region.wanted; rw [h]
theorem frame_actOf {x : Nat → Value} {a0 : Act} (hd : dstsOk l = true) : Frame l x a0 (actOf x l 0 a0) :=
 ⟨fun j o d h1 h2 h3 => by have := actOf_tmp (x := x) l 0 a0 j o d hd h1 h2 h3; rwa [Nat.zero_add] at this, fun d h => actOf_old l 0 a0 d h⟩
theorem stepOb_rd {hs : Nat → Hold} {w0 : World} {a0 : Act} {i : Nat} (hk : kindB l i true = true) (hd : dstsOk l = true) (h : rdOb P l hs w0 a0 i) : stepOb P l hs w0 a0 i := by
 intro x w hb hdep
 obtain ⟨o, v, ho, h1, h2⟩ := h _ x w (frame_actOf hd) hb hdep
 obtain ⟨k1, k2⟩ := kindB_spec hk ho
 rw [wpI_cons_eq, wpI_nil_eq]
 have ho' : l.toArray[i]? = some o := by simpa using ho
 unfold eOp
 simp only [ho', wanted_none k2, if_true]
 refine .inr (.inl ⟨k1, v, fun w' hx => ?_, ?_⟩)
 · rw [h1 w' hx]; exact ⟨rfl, rfl⟩
 · exact ⟨⟨Ext.refl _, hb⟩, v, by simp [ho], h2⟩
theorem stepOb_mk {hs : Nat → Hold} {w0 : World} {a0 : Act} {i : Nat} (hk : kindB l i false = true) (hd : dstsOk l = true) (h : mkOb P l hs w0 a0 i) : stepOb P l hs w0 a0 i := by
 intro x w hb hdep
 obtain ⟨o, v, w', ho, h1, h2, h3, h4⟩ := h _ x w (frame_actOf hd) hb hdep
 obtain ⟨k1, k2⟩ := kindB_spec hk ho
 rw [wpI_cons_eq, wpI_nil_eq]
 have ho' : l.toArray[i]? = some o := by simpa using ho
 unfold eOp
 simp only [ho', wanted_none k2, if_true]
 refine .inr (.inr ⟨k1, ?_⟩)
 rw [h1]
 exact ⟨h2, ⟨h2, h3⟩, v, by simp [ho], h4⟩
theorem stepOb_ca {hs : Nat → Hold} {w0 : World} {a0 : Act} {i : Nat} (hk : kindB l i false = true) (hd : dstsOk l = true) (h : caOb P l hs w0 a0 i) : stepOb P l hs w0 a0 i := by
 intro x w hb hdep
 obtain ⟨o, f, args, ho, h1, h2⟩ := h _ x w (frame_actOf hd) hb hdep
 obtain ⟨k1, k2⟩ := kindB_spec hk ho
 rw [wpI_cons_eq, wpI_nil_eq]
 have ho' : l.toArray[i]? = some o := by simpa using ho
 unfold eOp
 simp only [ho', wanted_none k2, if_true]
 refine .inr (.inr ⟨k1, ?_⟩)
 rw [h1]
 refine ⟨rfl, h2.mono fun e w' ⟨v, g1, g2, g3⟩ => ⟨v, g1, Below.ext g2, ⟨Below.ext g2, ?_⟩, v, by simp [ho], g3⟩⟩
 exact hb.trans (g2.mono hb.size)
attribute [irreducible] actOf
end theory
end
section
open Go.RowKit
def RInts (t : TypeId) (xs : List Int) (w : World) (e : Ending) (w' : World) : Prop :=
 ∃ o c, e = .returned (.slice o xs.length c) ∧ w'.ownsRow w.heap.size t 1 (.slice o xs.length c) xs.length (intVals xs) ∧ Below w.heap.size w w'
def RIntsF (t : TypeId) (xs : List Int) (F : Int × Int) (w : World) (e : Ending) (w' : World) : Prop :=
 ∃ o c, e = .returned (.tuple #[.slice o xs.length c, .agg #[.int .i64 F.1, .int .i64 F.2]]) ∧ w'.ownsRow w.heap.size t 1 (.slice o xs.length c) xs.length (intVals xs) ∧ Below w.heap.size w w'
theorem RIntsF.bad {t : TypeId} {xs : List Int} {F G : Int × Int} {w w' : World} (hG : F = G) (hx : xs = []) (hb : Below w.heap.size w w') : RIntsF t xs F w (.returned (.tuple #[.slice none 0 0, .agg #[.int .i64 G.1, .int .i64 G.2]])) w' := by
 subst hG; subst hx
 exact ⟨none, 0, rfl, World.ownsRow_nil _ _ _ _, hb⟩
theorem own_base0 {w : World} {B B' : Nat} {e : TypeId} {size n : Nat} {v : Value} {xs : List Value} (h : w.ownsRow B e size v n xs) (hB : B' ≤ B) : w.ownsRow B' e size v n xs := by
 refine ⟨h.1, ?_⟩
 rcases h.2 with h0 | ⟨g, c, cur, h1, h2, h3⟩
 · exact .inl h0
 · exact .inr ⟨g, c, cur, h1, by omega, h3⟩
theorem RIntsF.ok {t : TypeId} {xs : List Int} {F : Int × Int} {w w' : World} {v : Value} {n : Nat} (hF : F = (0, 0)) {B : Nat} (hn : n = xs.length) (hown : w'.ownsRow B t 1 v n (intVals xs)) (hB : w.heap.size ≤ B) (hb : Below w.heap.size w w') : RIntsF t xs F w (.returned (.tuple #[v, .agg #[.int .i64 0, .int .i64 0]])) w' := by
 subst hF; subst hn
 obtain ⟨oa, cap, rfl⟩ := own_slice hown
 exact ⟨oa, cap, rfl, own_base0 hown hB, hb⟩
theorem RInts.ok {t : TypeId} {xs : List Int} {w w' : World} {v : Value} {n : Nat} {B : Nat} (hn : n = xs.length) (hown : w'.ownsRow B t 1 v n (intVals xs)) (hB : w.heap.size ≤ B) (hb : Below w.heap.size w w') : RInts t xs w (.returned v) w' := by
 subst hn
 obtain ⟨oa, cap, rfl⟩ := own_slice hown
 exact ⟨oa, cap, rfl, own_base0 hown hB, hb⟩
theorem own_lit {w : World} {B g n size : Nat} {e : TypeId} {C : List Value} (hg : g = w.heap.size) (hB : B ≤ g) (hl : C.length = n * size) (hm : n ≤ maxLen) : (w.alloc (.cells C.toArray e)).ownsRow B e size (.slice (some ⟨g, 0, none⟩) n n) n C := by
 subst hg
 refine ⟨hl, .inr ⟨w.heap.size, n, C.toArray, rfl, hB, heap_alloc_new _ _, nle, hm, by simpa using hl, ?_⟩⟩
 simp only
 rw [← hl, List.take_length]
end
section
open Go.RowKit
structure Blk (w : World) (r : Nat) (cs : List Value) : Prop where
 c : ∀ j u, cs[j]? = some u → w.cell? ⟨r, j, none⟩ = some u
 f : ∀ j, j < cs.length → w.frozen? ⟨r, j, none⟩ = false
 lt : r < w.heap.size
theorem Blk.new (w : World) (cs : List Value) (t : TypeId) {g : Nat} (hg : g = w.heap.size) : Blk (w.alloc (.cells cs.toArray t)) g cs := by
 subst hg
 exact ⟨fun j u hu => by simp [hu], fun j _ => World.frozen?_alloc_at _ _ _ _ rfl, by simp⟩
theorem Blk.below {w w' : World} {r : Nat} {cs : List Value} (h : Blk w r cs) {B : Nat} (hb : Below B w w') (hr : r < B) : Blk w' r cs :=
 ⟨fun j u hu => (hb.cell (p := ⟨r, j, none⟩) hr).trans (h.c j u hu), fun j hj => (hb.frozen (p := ⟨r, j, none⟩) hr).trans (h.f j hj), Nat.lt_of_lt_of_le h.lt hb.size⟩
theorem Blk.bw {w w' : World} {r B : Nat} {cs : List Value} (h : Blk w r cs) (hb : Below B w w') (hr : r < B := by go_size) : Blk w' r cs := h.below hb hr
theorem Blk.alloc {w : World} {r : Nat} {cs : List Value} (h : Blk w r cs) (o : Obj) : Blk (w.alloc o) r cs := h.below (B := w.heap.size) ((Below.refl _ _).alloc nle _) h.lt
theorem Blk.drew {w : World} {r : Nat} {cs : List Value} (h : Blk w r cs) : Blk w.drew r cs := h.below (B := w.heap.size) ((Below.refl _ _).drew) h.lt
theorem Blk.drewN {w : World} {r : Nat} {cs : List Value} (h : Blk w r cs) (n : Nat) : Blk (w.drewN n) r cs := h.below (B := w.heap.size) (Go.below_drewN (Below.refl _ _) n) h.lt
theorem Blk.set {w : World} {r : Nat} {cs : List Value} (h : Blk w r cs) {k : Nat} (hk : k < cs.length) (v : Value) : Blk (w.setCell ⟨r, k, none⟩ v) r (cs.set k v) := by
 refine ⟨fun j u hu => ?_, fun j hj => by rw [frozen_setCell]; exact h.f j (by simpa using hj), by simpa using h.lt⟩
 rw [List.getElem?_set] at hu
 split at hu
 · rename_i hjk
   subst hjk
   obtain rfl : v = u := by simpa [hk] using hu
   exact World.cell?_setCell_same _ _ _ (h.c k _ (List.getElem?_eq_getElem hk))
 · rename_i hjk
   rw [World.cell?_setCell_other _ _ _ _ (by intro h2; injection h2 with _ h3; exact hjk h3)]
   exact h.c j u hu
theorem Blk.far {w : World} {r : Nat} {cs : List Value} (h : Blk w r cs) {a : Addr} (hne : a.block ≠ r) (v : Value) : Blk (w.setCell a v) r cs := by
 refine ⟨fun j u hu => ?_, fun j hj => by rw [frozen_setCell]; exact h.f j hj, by simpa using h.lt⟩
 rw [World.cell?_setCell_other _ _ _ _ (by intro h2; apply hne; have := congrArg Addr.block h2; first | exact this | exact this.symm)]
 exact h.c j u hu
theorem Blk.fr {w : World} {r : Nat} {cs : List Value} (h : Blk w r cs) (b o : Nat) (hne : b ≠ r) (v : Value) : Blk (w.setCell ⟨b, o, none⟩ v) r cs := h.far hne v
theorem Blk.st {w : World} {r : Nat} {cs : List Value} (h : Blk w r cs) (k : Nat) (v : Value) (hk : k < cs.length := by simp) : Blk (w.setCell ⟨r, k, none⟩ v) r (cs.set k v) := h.set hk v
theorem Box2.far {w : World} {r : Nat} {x y : Value} (h : Box2 w r x y) {a : Addr} (hne : a.block ≠ r) (v : Value) : Box2 (w.setCell a v) r x y := by
 refine ⟨?_, ?_, by rw [frozen_setCell]; exact h.f0, by rw [frozen_setCell]; exact h.f1, by simpa using h.lt⟩
 · rw [World.cell?_setCell_other _ _ _ _ (by intro h2; apply hne; have := congrArg Addr.block h2; first | exact this | exact this.symm)]; exact h.c0
 · rw [World.cell?_setCell_other _ _ _ _ (by intro h2; apply hne; have := congrArg Addr.block h2; first | exact this | exact this.symm)]; exact h.c1
theorem Box2.fr {w : World} {r : Nat} {x y : Value} (h : Box2 w r x y) (b o : Nat) (hne : b ≠ r) (v : Value) : Box2 (w.setCell ⟨b, o, none⟩ v) r x y := h.far hne v
end
section
open Go.RowKit
def strVals (l : List ByteArray) : List Value := l.map Value.string
theorem strVals_get (l : List ByteArray) (k : Nat) (h : k < l.length) : (strVals l)[k]? = some (.string l[k]) := by simp [strVals, h]
namespace Pl
theorem idCmp_dd {a b : List UInt8} (h1 : digsB a = true) (h2 : digsB b = true) : idCmp a b = orL [sgn (a.length : Int) (b.length : Int), Lib.compareBytes a b] := by
 unfold idCmp idKey lexP
 simp only [h1, h2, if_true, sgn_self, orL]
 split
 · split <;> simp [*]
 · rfl
theorem idCmp_dn {a b : List UInt8} (h1 : digsB a = true) (h2 : digsB b = false) : idCmp a b = -1 := by
 unfold idCmp idKey lexP
 simp [h1, h2, sgn]
theorem idCmp_nd {a b : List UInt8} (h1 : digsB a = false) (h2 : digsB b = true) : idCmp a b = 1 := by
 unfold idCmp idKey lexP
 simp [h1, h2, sgn]
theorem idCmp_nn {a b : List UInt8} (h1 : digsB a = false) (h2 : digsB b = false) : idCmp a b = Lib.compareBytes a b := by
 unfold idCmp idKey lexP
 simp [h1, h2, sgn]
end Pl
theorem Compare_any (a b : ByteArray) (w : World) : Calls Tryz.prog 182 #[.string a, .string b] w fun e w' => e = .returned (.int .i64 (Lib.compareBytes (Pl.bsl a) (Pl.bsl b))) ∧ w = w' :=
 (Tryz.strings_Compare a b w).mono fun _ _ ⟨h1, h2⟩ => ⟨h1, h2.symm⟩
theorem cmpInt_any (a b : Int) (w : World) : Calls Tryz.prog 144 #[.int .i64 a, .int .i64 b] w fun e w' => e = .returned (.int .i64 (Pl.sgn a b)) ∧ w = w' :=
 (Tryz.cmp_Compare_int a b w).mono fun _ _ ⟨h1, h2⟩ => ⟨h1, h2.symm⟩
set_option maxHeartbeats 1000000 in
theorem compareIdentifiers_any (a b : ByteArray) (w : World) (ha : Pl.asciiB (Pl.bsl a) = true) (hb : Pl.asciiB (Pl.bsl b) = true) (_ : a.size ≤ 9223372036854775807) (_ : b.size ≤ 9223372036854775807) :
 Calls Tryz.prog 146 #[.string a, .string b] w fun e w' => e = .returned (.int .i64 (Pl.idc a b)) ∧ Below w.heap.size w w' := by
 have HA := Hd ha
 have HB := Hd hb
 clear ha hb
 have head : ∀ {P : Int}, Pl.idc a b = P → Hid (P = Pl.idc a b) := fun h => Hd h.symm
 cases d1 : Pl.digsB (Pl.bsl a) <;> cases d2 : Pl.digsB (Pl.bsl b)
 · have E := head (Pl.idCmp_nn d1 d2)
   clear head
   go_enter Tryz.func146, Tryz.ntmps146
   go_wp2_with fail
   refine (numeric_any _ _ HA.out).mono ?_
   rintro e w1 ⟨rfl, b1⟩
   go_wp2_with fail
   refine (numeric_any _ _ HB.out).mono ?_
   rintro e w2 ⟨rfl, b2⟩
   go_wp2_with (go_at_call 182; refine (Compare_any _ _ _).mono ?_; rintro e w' ⟨rfl, rfl⟩)
   go_ret
   exact ⟨ret_int E.out, bcall b1 b2 b1.size⟩
 · have E := head (Pl.idCmp_nd d1 d2)
   clear head
   go_enter Tryz.func146, Tryz.ntmps146
   go_wp2_with fail
   refine (numeric_any _ _ HA.out).mono ?_
   rintro e w1 ⟨rfl, b1⟩
   go_wp2_with fail
   refine (numeric_any _ _ HB.out).mono ?_
   rintro e w2 ⟨rfl, b2⟩
   go_wp2_with fail
   go_ret
   exact ⟨ret_int E.out, bcall b1 b2 b1.size⟩
 · have E := head (Pl.idCmp_dn d1 d2)
   clear head
   go_enter Tryz.func146, Tryz.ntmps146
   go_wp2_with fail
   refine (numeric_any _ _ HA.out).mono ?_
   rintro e w1 ⟨rfl, b1⟩
   go_wp2_with fail
   refine (numeric_any _ _ HB.out).mono ?_
   rintro e w2 ⟨rfl, b2⟩
   go_wp2_with fail
   go_ret
   exact ⟨ret_int E.out, bcall b1 b2 b1.size⟩
 · have E := head (Pl.idCmp_dd d1 d2)
   clear head
   go_enter Tryz.func146, Tryz.ntmps146
   go_wp2_with fail
   refine (numeric_any _ _ HA.out).mono ?_
   rintro e w1 ⟨rfl, b1⟩
   go_wp2_with fail
   refine (numeric_any _ _ HB.out).mono ?_
   rintro e w2 ⟨rfl, b2⟩
   have B2 := bcall b1 b2 b1.size
   go_wp2_with (first | (go_at_call 182; refine (Compare_any _ _ _).mono ?_; rintro e w' ⟨rfl, rfl⟩) | (go_at_call 144; refine (cmpInt_any _ _ _).mono ?_; rintro e w' ⟨rfl, rfl⟩))
   refine (Or_any [Pl.sgn (a.size : Int) (b.size : Int), Lib.compareBytes (Pl.bsl a) (Pl.bsl b)] _ _ _ (Sl.fresh (C := intVals [Pl.sgn (a.size : Int) (b.size : Int), Lib.compareBytes (Pl.bsl a) (Pl.bsl b)]) rfl rfl nle (by unfold maxLen; simp)) (by simp)).mono ?_
   rintro e w' ⟨rfl, rfl⟩
   go_wp2_with fail
   go_ret
   exact ⟨ret_int E.out, by have h := B2.size; exact B2.alloc h _⟩
end
section
open Go.RowKit
theorem Sl.strAt {w : World} {oa : Option Addr} {cap : Nat} {xs : List ByteArray} (h : Sl w oa xs.length cap 1 (strVals xs)) (h0 : 0 < xs.length) : ∃ b off, oa = some ⟨b, off, none⟩ ∧ b < w.heap.size ∧ ∀ k (hk : k < xs.length), w.cell? ⟨b, off + k, none⟩ = some (.string xs[k]) := by
 rcases h.mem with h1 | ⟨b, off, h1, h2, h3⟩
 · have : xs = [] := by simpa [strVals] using h1
   subst this; simp at h0
 · exact ⟨b, off, h1, h2, fun k hk => h3 k _ (strVals_get xs k hk)⟩
set_option maxHeartbeats 1000000 in
theorem CompareFunc_any (a b : List ByteArray) (oa ob : Option Addr) (ca cb : Nat) (w : World) (ha : Sl w oa a.length ca 1 (strVals a)) (hb : Sl w ob b.length cb 1 (strVals b)) (la : a.length ≤ 9223372036854775807) (lb : b.length ≤ 9223372036854775807)
 (va : ∀ s ∈ a, Pl.asciiB (Pl.bsl s) = true ∧ s.size ≤ 9223372036854775807) (vb : ∀ s ∈ b, Pl.asciiB (Pl.bsl s) = true ∧ s.size ≤ 9223372036854775807) :
 Calls Tryz.prog 145 #[.slice oa a.length ca, .slice ob b.length cb, .func (.func 146) #[] #[]] w fun e w' => e = .returned (.int .i64 (Pl.lexL Pl.idc a b)) ∧ Below w.heap.size w w' := by
 have VA := Hd va
 have VB := Hd vb
 clear va vb
 go_enter Tryz.func145, Tryz.ntmps145
 go_wp2
 go_loopw [13] (fun i wr => ∃ k : Nat, k ≤ a.length ∧ k ≤ b.length ∧ i = .int .i64 k ∧ Hid (Pl.EqTo Pl.idc a b k) ∧ Below w.heap.size w wr) (fun i _ => a.length - (intOf i).toNat)
 case atStart => exact ⟨0, Nat.zero_le _, Nat.zero_le _, rfl, Pl.EqTo.zero _ _ _, Below.refl _ _⟩
 case round =>
  obtain ⟨k, hk, hkb, rfl, hu, hbw⟩ := hrel
  have sw := hbw.size
  by_cases hlt : k < a.length
  · obtain ⟨ba, offa, rfl, hla, hca⟩ := ha.strAt (by omega)
    have c1 : wr.cell? ⟨ba, offa + k, none⟩ = some (.string a[k]) := by rw [hbw.cell (p := ⟨ba, offa + k, none⟩) hla]; exact hca k hlt
    by_cases hlt2 : k < b.length
    · obtain ⟨bb, offb, rfl, hlb, hcb⟩ := hb.strAt (by omega)
      have c2 : wr.cell? ⟨bb, offb + k, none⟩ = some (.string b[k]) := by rw [hbw.cell (p := ⟨bb, offb + k, none⟩) hlb]; exact hcb k hlt2
      have v1 := Hd (VA.out _ (List.getElem_mem hlt))
      have v2 := Hd (VB.out _ (List.getElem_mem hlt2))
      have st := Hd (fun h => hu.out.succ hlt hlt2 h)
      have en := Hd (fun h => Pl.lexL_at hu.out hlt hlt2 h)
      clear hca hcb
      generalize a[k] = x at *
      generalize b[k] = y at *
      by_cases hz : Pl.idc x y = 0
      · have t1 := bneF hz
        have t2 := beqT hz
        have st := Hd (st.out hz)
        clear en hz
        go_wp2_with (go_at_call 146; refine (compareIdentifiers_any x y _ v1.out.1 v2.out.1 v1.out.2 v2.out.2).mono ?_; rintro e w1 ⟨rfl, b1⟩)
        go_roundw
        case rel => exact ⟨k + 1, hlt, hlt2, by go_num, st, bcall hbw b1 hbw.size⟩
        case measure => simp [intOf]; omega
      · have t1 := bneT hz
        have t2 := beqF hz
        have en := Hd (en.out hz)
        clear st hz
        go_wp2_with (go_at_call 146; refine (compareIdentifiers_any x y _ v1.out.1 v2.out.1 v1.out.2 v2.out.2).mono ?_; rintro e w1 ⟨rfl, b1⟩)
        go_ret
        exact ⟨ret_int en.out.symm, bcall hbw b1 hbw.size⟩
    · have E := Hd (show Pl.lexL Pl.idc a b = 1 by
       rw [Pl.lexL_end hu.out hk hkb (by omega)]; exact Pl.sgn_gt (by omega))
      clear hca
      generalize a[k] = x at *
      go_wp2_with fail
      go_ret
      exact ⟨ret_int E.out.symm, hbw⟩
  · have E := Hd (show Pl.lexL Pl.idc a b = Pl.sgn (a.length : Int) (b.length : Int) from Pl.lexL_end hu.out hk hkb (by omega))
    have hab : a.length ≤ b.length := by omega
    by_cases hl : a.length < b.length
    · rw [Pl.sgn_lt (by omega)] at E
      go_wp2_with fail
      go_ret
      exact ⟨ret_int E.out.symm, hbw⟩
    · rw [Pl.sgn_zero.2 (by omega)] at E
      go_wp2_with fail
      go_ret
      exact ⟨ret_int E.out.symm, hbw⟩
theorem quiet_add_left {P : Program} {f : FuncId} {args : Array Value} {w : World} {a n : Nat} {v : Value}
 (h : Calls P f args (w.drewN (a + n)) fun e w' => e = .returned v ∧ w.drewN (a + n) = w') : Calls P f args (w.drewN (a + n)) fun e w'' => e = .returned v ∧ ∃ m, w'' = w.drewN (a + m) :=
 h.mono fun _ _ ⟨he, hm⟩ => ⟨he, n, hm.symm⟩
theorem quiet_add_q {P : Program} {f : FuncId} {args : Array Value} {w : World} {a n : Nat} {v : Value}
 (h : Calls P f args (w.drewN (a + n)) fun e w' => e = .returned v ∧ ∃ q, w' = (w.drewN (a + n)).drewN q) : Calls P f args (w.drewN (a + n)) fun e w'' => e = .returned v ∧ ∃ m, w'' = w.drewN (a + m) :=
 h.mono fun _ _ ⟨he, m, hm⟩ => ⟨he, n + m, by rw [hm, World.drewN_drewN, Nat.add_assoc]⟩
namespace Pl
def byteC (a b : UInt8) : Int := sgn a.toNat b.toNat
theorem cmpB_lex (a b : List UInt8) : Lib.compareBytes a b = lexL byteC a b := compareBytes_lex a b
theorem bytes_at {a b : ByteArray} {k : Nat} (h : EqTo byteC (bsl a) (bsl b) k) (h1 : k < a.size) (h2 : k < b.size) :
 ((a[k].toNat : Int) = (b[k].toNat : Int) → EqTo byteC (bsl a) (bsl b) (k + 1)) ∧ ((a[k].toNat : Int) ≠ (b[k].toNat : Int) → Lib.compareBytes (bsl a) (bsl b) = sgn (a[k].toNat : Int) (b[k].toNat : Int)) := by
 refine ⟨fun e => h.succ h1 h2 ?_, fun e => ?_⟩
 · show sgn _ _ = 0
   exact sgn_zero.2 e
 · rw [cmpB_lex, lexL_at h h1 h2 (fun e2 => e (sgn_zero.1 e2))]; rfl
theorem bytes_end {a b : ByteArray} {k : Nat} (h : EqTo byteC (bsl a) (bsl b) k) (h1 : k ≤ a.size) (h2 : k ≤ b.size) (h3 : k = a.size ∨ k = b.size) : Lib.compareBytes (bsl a) (bsl b) = sgn (a.size : Int) (b.size : Int) := by
 rw [cmpB_lex]; exact lexL_end h h1 h2 h3
end Pl
set_option maxHeartbeats 1000000 in
theorem identifiers_any (a b : ByteArray) (w : World) (ha : Pl.identB (Pl.bsl a) = true) (hb : Pl.identB (Pl.bsl b) = true) :
 Calls Tryz.prog 120 #[.string a, .string b] w fun e w' => e = .returned (.int .i64 (Pl.idc a b)) ∧ ∃ q, w' = w.drewN q := by
 obtain ⟨a1, a2, -, -⟩ := Pl.identB_iff.1 ha
 obtain ⟨b1, b2, -, -⟩ := Pl.identB_iff.1 hb
 rw [Pl.bsl_len] at a1 a2 b1 b2
 have sa : a.size ≤ 9223372036854775807 := by omega
 have sb : b.size ≤ 9223372036854775807 := by omega
 have na : Pl.numB (Pl.bsl a) = Pl.digsB (Pl.bsl a) := by unfold Pl.numB; rw [Pl.bsl_len, decide_eq_true (by omega), Bool.and_true]
 have nb : Pl.numB (Pl.bsl b) = Pl.digsB (Pl.bsl b) := by unfold Pl.numB; rw [Pl.bsl_len, decide_eq_true (by omega), Bool.and_true]
 have HR := Pl.idRef_eq ha hb
 unfold Pl.idRef at HR
 clear ha hb
 cases d1 : Pl.digsB (Pl.bsl a)
 · cases d2 : Pl.digsB (Pl.bsl b)
   · rw [d1, d2] at HR
     rw [d1] at na
     rw [d2] at nb
     have E := Hd (show Lib.compareBytes (Pl.bsl a) (Pl.bsl b) = Pl.idc a b by rw [show Pl.idc a b = Pl.idCmp (Pl.bsl a) (Pl.bsl b) from rfl, ← HR]; simp)
     clear HR d1 d2
     go_enter Tryz.func120, Tryz.ntmps120
     go_wp2_with (go_at_call 104; refine (Numeric_any _ _ (by assumption)).mono ?_; rintro e w' ⟨rfl, rfl⟩)
     go_loopw [5] (fun i wr => ∃ k : Nat, k ≤ a.size ∧ k ≤ b.size ∧ i = .int .i64 k ∧ Hid (Pl.EqTo Pl.byteC (Pl.bsl a) (Pl.bsl b) k) ∧ ∃ q, wr = w.drewN q) (fun i _ => a.size - (intOf i).toNat)
     case atStart => exact ⟨0, Nat.zero_le _, Nat.zero_le _, rfl, Pl.EqTo.zero _ _ _, 0, rfl⟩
     case round =>
      obtain ⟨k, hk, hkb, rfl, hu, q, rfl⟩ := hrel
      by_cases hlt : k < a.size
      · by_cases hlt2 : k < b.size
        · obtain ⟨g1, g2⟩ := Pl.bytes_at hu.out hlt hlt2
          by_cases he : (a[k].toNat : Int) = (b[k].toNat : Int)
          · have t1 := bneF he
            have t2 := beqT he
            have st := Hd (g1 he)
            clear g1 g2 he
            go_wp2_with fail
            go_quiet (fail)
            go_wp2_with fail
            go_roundw
            case rel => exact ⟨k + 1, hlt, hlt2, by go_num, st, _, rfl⟩
            case measure => simp [intOf]; omega
          · have t1 := bneT he
            have t2 := beqF he
            have e2 := Hd ((g2 he).symm.trans E.out)
            have h255 : (a[k].toNat : Int) ≤ 255 := by have := a[k].toNat_lt; omega
            have g255 : (b[k].toNat : Int) ≤ 255 := by have := b[k].toNat_lt; omega
            clear g1 g2 he
            go_wp2_with fail
            go_quiet (fail)
            go_wp2_with fail
            go_quiet ((go_at_call 119; exact quiet_add_left (Sign3_any _ _ _)))
            go_wp2_with fail
            go_ret
            exact ⟨ret_int e2.out, _, by rw [World.drewN_drewN, World.drewN_drewN]⟩
        · have e2 := Hd ((Pl.bytes_end hu.out hk hkb (by omega)).symm.trans E.out)
          go_wp2_with (go_at_call 119; refine (Sign3_any _ _ _).mono ?_; rintro e w' ⟨rfl, rfl⟩)
          go_ret
          exact ⟨ret_int e2.out, q, rfl⟩
      · have e2 := Hd ((Pl.bytes_end hu.out hk hkb (by omega)).symm.trans E.out)
        go_wp2_with (go_at_call 119; refine (Sign3_any _ _ _).mono ?_; rintro e w' ⟨rfl, rfl⟩)
        go_ret
        exact ⟨ret_int e2.out, q, rfl⟩
   · rw [d1, d2] at HR
     rw [d1] at na
     rw [d2] at nb
     have E := Hd (show 1 = Pl.idc a b by rw [show Pl.idc a b = Pl.idCmp (Pl.bsl a) (Pl.bsl b) from rfl, ← HR]; simp)
     clear HR d1 d2
     go_enter Tryz.func120, Tryz.ntmps120
     go_wp2_with (go_at_call 104; refine (Numeric_any _ _ (by assumption)).mono ?_; rintro e w' ⟨rfl, rfl⟩)
     go_ret
     exact ⟨ret_int E.out, 0, rfl⟩
 · cases d2 : Pl.digsB (Pl.bsl b)
   · rw [d1, d2] at HR
     rw [d1] at na
     rw [d2] at nb
     have E := Hd (show -1 = Pl.idc a b by rw [show Pl.idc a b = Pl.idCmp (Pl.bsl a) (Pl.bsl b) from rfl, ← HR]; simp)
     clear HR d1 d2
     go_enter Tryz.func120, Tryz.ntmps120
     go_wp2_with (go_at_call 104; refine (Numeric_any _ _ (by assumption)).mono ?_; rintro e w' ⟨rfl, rfl⟩)
     go_ret
     exact ⟨ret_int E.out, 0, rfl⟩
   · rw [d1, d2] at HR
     rw [d1] at na
     rw [d2] at nb
     have E := Hd (show Pl.sgn (Pl.valL (Pl.bsl a)) (Pl.valL (Pl.bsl b)) = Pl.idc a b by rw [show Pl.idc a b = Pl.idCmp (Pl.bsl a) (Pl.bsl b) from rfl, ← HR]; simp)
     have D1 := Hd d1
     have D2 := Hd d2
     clear HR d1 d2
     go_enter Tryz.func120, Tryz.ntmps120
     go_wp2_with (first | (go_at_call 104; refine (Numeric_any _ _ (by assumption)).mono ?_; rintro e w' ⟨rfl, rfl⟩) | (go_at_call 149; refine (value_any _ _ (by assumption) (by first | exact D1.out | exact D2.out)).mono ?_; rintro e w' ⟨rfl, rfl⟩) | (go_at_call 119; refine (Sign3_any _ _ _).mono ?_; rintro e w' ⟨rfl, rfl⟩))
     go_ret
     exact ⟨ret_int E.out, 0, rfl⟩
end
end Go.Proofs.YtolfgcoalihmgaaGreatDoor
