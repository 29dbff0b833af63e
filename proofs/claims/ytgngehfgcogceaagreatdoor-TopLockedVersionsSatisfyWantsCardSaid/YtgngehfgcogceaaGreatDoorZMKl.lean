/- Texts joined: Kc Ke Kf Kj Kl. -/
import Derived.Test.YtgngehfgcogceaaGreatDoorZMKb
section
/- A region that draws its order, whose operations read what was there, or call functions that only add to memory: one walk in one order serves every order. No program in sight. -/
namespace Go.Proofs.YtgngehfgcogceaaGreatDoor
open Go.RowKit

section theory
variable {P : Program} {ops : Array Oper} {md : Region.Mode}

/-- w' has what w has: its rows stand, but for a mark behind an unmarked row's last cell. -/
structure Ext (w w' : World) : Prop where
  size : w.heap.size ≤ w'.heap.size
  row : ∀ (b : Nat) (C : Array Value) (e : TypeId) (fr : Nat × Nat), w.heap[b]? = some (Obj.cells C e fr) → ∃ fr', w'.heap[b]? = some (Obj.cells C e fr') ∧ (fr' = fr ∨ fr.1 = fr.2 ∧ fr' = (C.size, C.size + 1))
theorem Ext.refl (w : World) : Ext w w := ⟨Nat.le_refl _, fun _ _ _ fr h => ⟨fr, h, .inl rfl⟩⟩
theorem Ext.trans {a b c : World} (h : Ext a b) (g : Ext b c) : Ext a c := ⟨Nat.le_trans h.size g.size, fun k C e fr hk => by
  obtain ⟨f1, h1, h2⟩ := h.row k C e fr hk
  obtain ⟨f2, g1, g2⟩ := g.row k C e f1 h1
  refine ⟨f2, g1, ?_⟩
  rcases h2 with rfl | ⟨h2, rfl⟩
  · exact g2
  · rcases g2 with rfl | ⟨g2, rfl⟩
    · exact .inr ⟨h2, rfl⟩
    · exact .inr ⟨h2, rfl⟩⟩
theorem Below.ext {w w' : World} (h : Below w.heap.size w w') : Ext w w' := ⟨h.size, fun b C e fr hb => ⟨fr, by
  have hlt : b < w.heap.size := by
    rcases Nat.lt_or_ge b w.heap.size with h' | h'
    · exact h'
    · simp [Array.getElem?_eq_none h'] at hb
  rw [h.block b hlt, hb], .inl rfl⟩⟩
theorem Ext.cell {w w' : World} (h : Ext w w') (p : Addr) (v : Value) (hp : w.cell? p = some v) : w'.cell? p = some v := by
  unfold World.cell? at *
  split at hp
  · rename_i C e fr hb
    obtain ⟨fr', h1, _⟩ := h.row _ _ _ _ hb
    rw [h1]; exact hp
  · cases hp
theorem Ext.frozen {w w' : World} (h : Ext w w') (p : Addr) (v : Value) (hp : w.cell? p = some v) : w'.frozen? p = w.frozen? p := by
  unfold World.cell? at hp
  unfold World.frozen?
  split at hp
  · rename_i C e fr hb
    obtain ⟨fr', h1, h2⟩ := h.row _ _ _ _ hb
    rw [h1, hb]
    rcases h2 with rfl | ⟨h2, rfl⟩
    · rfl
    · have : p.off < C.size := by
        rcases Nat.lt_or_ge p.off C.size with h' | h'
        · exact h'
        · simp [Array.getElem?_eq_none h'] at hp
      obtain ⟨lo, hi⟩ := fr
      simp only at h2
      subst h2
      rw [Bool.eq_iff_iff]
      simp only [Bool.and_eq_true, decide_eq_true_eq]
      omega
  · cases hp
theorem Sl.under {w w' : World} {oa : Option Addr} {n cap sz : Nat} {cs : List Value} (h : Sl w oa n cap sz cs) (hx : Ext w w') : Sl w' oa n cap sz cs := by
  refine ⟨h.hl, h.hcap, h.hmax, ?_⟩
  rcases h.mem with h0 | ⟨b, off, rfl, hlt, hc⟩
  · exact .inl h0
  · exact .inr ⟨b, off, rfl, Nat.lt_of_lt_of_le hlt hx.size, fun j u hu => hx.cell _ _ (hc j u hu)⟩

/-- e, if it adds to W; else W itself. -/
noncomputable def extW (W e : World) : World := @ite _ (Ext W e) (Classical.propDecidable _) e W
theorem extW_ext (W e : World) : Ext W (extW W e) := by
  unfold extW
  split
  · assumption
  · exact Ext.refl _
theorem extW_of {W w' : World} (h : Ext W w') : w' = extW W w' := by
  unfold extW
  rw [if_pos h]
/-- What a cell holds that is not W's. -/
noncomputable def extCell (W e : World) (a : Addr) : Option Value := (extW W e).cell? a
/-- W's own cells stand. -/
@[go_sem] theorem cell?_extW (W e : World) (a : Addr) : (extW W e).cell? a = (W.cell? a).or (extCell W e a) := by
  cases h : W.cell? a with
  | none => rfl
  | some v => exact (extW_ext W e).cell a v h
theorem Sl.ext {W : World} {oa : Option Addr} {n cap sz : Nat} {cs : List Value} (h : Sl W oa n cap sz cs) (e : World) : Sl (extW W e) oa n cap sz cs := h.under (extW_ext W e)

/-- The operations that read. -/
def isRd : Op → Bool
  | .move _ | .assign _ | .pick .. | .load .. | .binOp .. | .unOp .. | .fieldAddr .. | .field .. | .indexAddr .. | .index .. | .extract .. | .slice .. | .build .. => true
  | .convert s t _ => s != t
  | .call c => match c.callee with | .builtin .len => true | _ => false
  | _ => false

/-- The operations that write into memory that is there. -/
def isSt : Op → Bool
  | .store .. => true
  | .call c => match c.callee with | .builtin .append => true | _ => false
  | _ => false
theorem isSt_rd {o : Op} (h : isRd o = true) : isSt o = false := by
  cases o with
  | call c =>
    obtain ⟨cal, a, t⟩ := c
    cases cal with
    | builtin b => cases b <;> first | rfl | simp [isRd] at h
    | _ => rfl
  | _ => first | rfl | simp [isRd] at h

theorem andThen_value {s : Sem Value} {w : World} {f : FuncId} {args : Array Value} {w' : World} : ((do pure (Next.value (← s)) : Sem Next)).run P w ≠ .ok (.enter f args) w' := by
  simp only [Sem.run_bind]
  cases s.run P w with
  | ok a w1 => simp [Sem.run_pure]
  | halt h w1 => simp [Result.andThen]

theorem noEnter {o : Oper} (h : isRd o.op = true) {ρ : Operand → Value} {w w' : World} {f : FuncId} {args : Array Value} : (execOp ρ o).run P w ≠ .ok (.enter f args) w' := by
  unfold execOp
  cases ho : o.op with
  | move x => simp [Sem.run_pure]
  | assign x => simp [Sem.run_pure]
  | pick c x y =>
    simp only [Sem.run_bind]
    cases (asBool (ρ c)).run P w with
    | ok a w1 => simp [Sem.run_pure]
    | halt h w1 => simp [Result.andThen]
  | call c =>
    obtain ⟨cal, ags, ts⟩ := c
    cases cal with
    | value f => simp [isRd, ho] at h
    | invoke f m => simp [isRd, ho] at h
    | builtin b =>
      cases b with
      | len =>
        simp only [resolve, invoke, builtin, Sem.run_bind, Sem.run_pure, Result.andThen_ok]
        cases (Builtin.len_ ts o.type (ags.map ρ)).run P w with
        | ok a w1 => simp
        | halt h w1 => simp [Result.andThen]
      | _ => simp [isRd, ho] at h
  | load t x => exact andThen_value
  | binOp a b c d e => exact andThen_value
  | unOp a b c => exact andThen_value
  | convert a b c => exact andThen_value
  | fieldAddr a b c => exact andThen_value
  | field a b c => exact andThen_value
  | indexAddr a b c => exact andThen_value
  | index a b c => exact andThen_value
  | extract a b => exact andThen_value
  | slice a b c d e => exact andThen_value
  | build a b => exact andThen_value
  | _ => simp [isRd, ho] at h

/-- What a reading operation comes to in w: the value v, and w as it was. -/
def rdUpon (w : World) (v : Value) : Result Next → Prop
  | .ok (.value u) w' => w' = w ∧ u = v
  | .ok .skip w' => w' = w ∧ v = undef
  | _ => False
/-- What any other operation comes to: it adds to memory, then K. -/
def addUpon (P : Program) (o : Oper) (a : Act) (w : World) (K : Act → World → Prop) : Result Next → Prop
  | .ok (.value u) w' => Ext w w' ∧ K (a.put o.dst u) w'
  | .ok .skip w' => Ext w w' ∧ K (a.put o.dst undef) w'
  | .ok (.enter f args) w' => w' = w ∧ Calls P f args w (fun e w'' => ∃ v, e = .returned v ∧ Ext w w'' ∧ K (a.put o.dst v) w'')
  | _ => False
/-- What a store comes to. -/
def stUpon (o : Oper) (a : Act) (K : Act → World → Prop) : Result Next → Prop
  | .ok .skip w' => K (a.put o.dst undef) w'
  | .ok (.value u) w' => K (a.put o.dst u) w'
  | _ => False
def extOp (P : Program) (o : Oper) (a : Act) (w : World) (K : Act → World → Prop) : Prop :=
  (isSt o.op = true ∧ stUpon o a K ((execOp a.eval o).run P w)) ∨
  (isRd o.op = true ∧ ∃ v, (∀ w', Ext w w' → rdUpon w' v ((execOp a.eval o).run P w')) ∧ K (a.put o.dst v) w) ∨
  (isRd o.op = false ∧ addUpon P o a w K ((execOp a.eval o).run P w))

def eOp (P : Program) (ops : Array Oper) (i : Nat) (K : Act → World → Prop) (a : Act) (w : World) : Prop :=
  match ops[i]? with
  | none => K a w
  | some o => if Region.wanted o (yielded ops a.tmps) then extOp P o a w K else K (a.put o.dst undef) w

theorem addUpon_mono {o : Oper} {a : Act} {w : World} {K K' : Act → World → Prop} (h : ∀ a w, K a w → K' a w) {r : Result Next} (hh : addUpon P o a w K r) : addUpon P o a w K' r := by
  cases r with
  | ok n w' =>
    cases n <;> simp only [addUpon] at hh ⊢
    case value u => exact ⟨hh.1, h _ _ hh.2⟩
    case skip => exact ⟨hh.1, h _ _ hh.2⟩
    case enter f args => exact ⟨hh.1, hh.2.mono fun e w'' ⟨v, h1, h2, h3⟩ => ⟨v, h1, h2, h _ _ h3⟩⟩
  | halt x w' => simp only [addUpon] at hh

theorem stUpon_mono {o : Oper} {a : Act} {K K' : Act → World → Prop} (h : ∀ a w, K a w → K' a w) {r : Result Next} (hh : stUpon o a K r) : stUpon o a K' r := by
  cases r with
  | ok n w' => cases n <;> simp only [stUpon] at hh ⊢ <;> exact h _ _ hh
  | halt x w' => simp only [stUpon] at hh

theorem eOp_mono {i : Nat} {a : Act} {w : World} {K K' : Act → World → Prop} (h : ∀ a w, K a w → K' a w) (hh : eOp P ops i K a w) : eOp P ops i K' a w := by
  unfold eOp at *
  split
  · exact h _ _ (by simpa [*] using hh)
  · rename_i o ho
    simp only [ho] at hh
    split
    · rename_i hw
      simp only [hw, if_true] at hh
      rcases hh with ⟨h1, h2⟩ | ⟨h1, v, h2, h3⟩ | ⟨h1, h2⟩
      · exact .inl ⟨h1, stUpon_mono h h2⟩
      · exact .inr (.inl ⟨h1, v, h2, h _ _ h3⟩)
      · exact .inr (.inr ⟨h1, addUpon_mono h h2⟩)
    · rename_i hw; simp only [hw] at hh; exact h _ _ hh

/-- Whatever order is picked from here on. -/
def wpAnyE (P : Program) (md : Region.Mode) (ops : Array Oper) (Q : Act → World → Prop) : Nat → Array Bool → Act → World → Prop
  | 0, listed, a, w => Region.ready md ops listed = [] ∧ Q a w
  | fuel + 1, listed, a, w =>
    (Region.ready md ops listed = [] → Q a w) ∧
    ∀ i ∈ Region.ready md ops listed, eOp P ops i (wpAnyE P md ops Q fuel (listed.setIfInBounds i true)) a w

theorem wpOp_of_eOp {i : Nat} {a : Act} {K : Act → World → Prop} {K' : Act → World → Prop} {Q' : Exit → Act → World → Prop} {w : World} (h : ∀ a w', K a w' → K' a w') (hh : eOp P ops i K a w) : wpOp P ops Q' i K' a w := by
  unfold eOp at hh
  unfold wpOp
  split
  · rename_i ho; simp only [ho] at hh; exact h _ _ hh
  · rename_i o ho
    simp only [ho] at hh
    split
    · rename_i hw
      simp only [hw, if_true] at hh
      refine .inl ?_
      unfold Oper.wp
      rcases hh with ⟨h1, h2⟩ | ⟨h1, v, h2, h3⟩ | ⟨h1, h2⟩
      · generalize (execOp a.eval o).run P w = r at *
        cases r with
        | ok n w' =>
          cases n <;> simp only [stUpon] at h2 <;> simp only [Oper.upon]
          case skip => exact h _ _ h2
          case value u => exact h _ _ h2
        | halt x w' => simp only [stUpon] at h2
      · have h4 := h2 w (Ext.refl _)
        generalize (execOp a.eval o).run P w = r at *
        cases r with
        | ok n w' =>
          cases n <;> simp only [rdUpon] at h4 <;> simp only [Oper.upon]
          case value u => obtain ⟨rfl, rfl⟩ := h4; exact h _ _ h3
          case skip => obtain ⟨rfl, rfl⟩ := h4; exact h _ _ h3
        | halt x w' => simp only [rdUpon] at h4
      · generalize (execOp a.eval o).run P w = r at *
        cases r with
        | ok n w' =>
          cases n <;> simp only [addUpon] at h2 <;> simp only [Oper.upon]
          case value u => exact h _ _ h2.2
          case skip => exact h _ _ h2.2
          case enter f args =>
            obtain ⟨rfl, hc⟩ := h2
            exact hc.mono fun e w'' ⟨v, he, _, hk⟩ => by subst he; exact h _ _ hk
        | halt x w' => simp only [addUpon] at h2
    · rename_i hw; simp only [hw] at hh; exact h _ _ hh

theorem wpAny_of_E {Q : Act → World → Prop} {Q' : Exit → Act → World → Prop} (hQ : ∀ a w, Q a w → Q' .normal a w) : ∀ (fuel : Nat) (listed : Array Bool) (a : Act) (w : World),
    wpAnyE P md ops Q fuel listed a w → wpAny P md ops Q' fuel listed a w
  | 0, _, _, _, h => ⟨h.1, hQ _ _ h.2⟩
  | fuel + 1, _, _, _, h => ⟨fun h0 => hQ _ _ (h.1 h0), fun i hi => wpOp_of_eOp (fun a' w' => wpAny_of_E hQ fuel _ a' w') (h.2 i hi)⟩

/-- The operation reads, and yields v now and later. -/
def YieldsE (P : Program) (ops : Array Oper) (o : Oper) (v : Value) (a : Act) (w : World) : Prop :=
  (Region.wanted o (yielded ops a.tmps) = true ∧ isRd o.op = true ∧ ∀ w', Ext w w' → rdUpon w' v ((execOp a.eval o).run P w')) ∨
  (Region.wanted o (yielded ops a.tmps) = false ∧ v = undef)

theorem YieldsE.eOp {i : Nat} {o : Oper} {v : Value} {a : Act} {w : World} (hi : ops[i]? = some o) (hy : YieldsE P ops o v a w) {K : Act → World → Prop} (h : K (a.put o.dst v) w) : eOp P ops i K a w := by
  unfold Proofs.YtgngehfgcogceaaGreatDoor.eOp
  simp only [hi]
  rcases hy with ⟨hw, hr, hv⟩ | ⟨hw, rfl⟩
  · simp only [hw, if_true]; exact .inr (.inl ⟨hr, v, hv, h⟩)
  · simp only [hw, Bool.false_eq_true, if_false]; exact h

theorem YieldsE.of_same {o : Oper} {v : Value} {a a' : Act} {w w' : World} (hy : YieldsE P ops o v a w) (hb : Ext w w') (he : execOp a'.eval o = execOp a.eval o)
    (hw : Region.wanted o (yielded ops a'.tmps) = Region.wanted o (yielded ops a.tmps)) : YieldsE P ops o v a' w' := by
  unfold YieldsE at *
  rw [he, hw]
  rcases hy with ⟨h1, h2, h3⟩ | h1
  · exact .inl ⟨h1, h2, fun w'' hb' => h3 w'' (hb.trans hb')⟩
  · exact .inr h1

theorem eOp_put {j : Nat} {oi oj : Oper} {v : Value} (hj : ops[j]? = some oj) (hap : oi.apart ops oj = true)
    (hsi : ∀ cs b, oi.op ≠ .select cs b) (hsj : ∀ cs b, oj.op ≠ .select cs b) (hns : isSt oj.op = false) {K : Act → World → Prop} {a : Act} {w : World}
    (hy : YieldsE P ops oi v a w) (h : eOp P ops j K (a.put oi.dst v) w) :
    eOp P ops j (fun a' w' => YieldsE P ops oi v a' w' ∧ K (a'.put oi.dst v) w') a w := by
  obtain ⟨h1, h2, h3⟩ := Oper.apart_spec hap
  have keep : ∀ u w', Ext w w' → YieldsE P ops oi v (a.put oj.dst u) w' := fun u w' hb =>
    hy.of_same hb (execOp_put oi hsi a oj.dst u h3) (wanted_put oi a oj.dst u h3)
  unfold eOp at *
  simp only [hj] at *
  rw [wanted_put oj a oi.dst v h1] at h
  split
  · rename_i hw
    simp only [hw, if_true] at h
    unfold extOp at *
    rw [execOp_put oj hsj a oi.dst v h1] at h
    rcases h with ⟨g1, _⟩ | ⟨g1, u, g2, g3⟩ | ⟨g1, g2⟩
    · rw [hns] at g1; cases g1
    · exact .inr (.inl ⟨g1, u, g2, keep u w (Ext.refl _), by rw [← Act.put_comm a v u h2]; exact g3⟩)
    · refine .inr (.inr ⟨g1, ?_⟩)
      generalize (execOp a.eval oj).run P w = r at *
      cases r with
      | ok n w' =>
        cases n <;> simp only [addUpon] at g2 ⊢
        case value u => exact ⟨g2.1, keep u w' g2.1, by rw [← Act.put_comm a v u h2]; exact g2.2⟩
        case skip => exact ⟨g2.1, keep undef w' g2.1, by rw [← Act.put_comm a v undef h2]; exact g2.2⟩
        case enter f args => exact ⟨g2.1, g2.2.mono fun e w'' ⟨u, he, hb, hk⟩ => ⟨u, he, hb, keep u w'' hb, by rw [← Act.put_comm a v u h2]; exact hk⟩⟩
      | halt x w' => simp only [addUpon] at g2
  · rename_i hw
    simp only [hw] at h
    exact ⟨keep _ w (Ext.refl _), by rw [← Act.put_comm a v undef h2]; exact h⟩

/-- Does j wait for i, straight or through others? -/
def needsB (md : Region.Mode) (ops : Array Oper) : Nat → Nat → Nat → Bool
  | 0, _, _ => false
  | f + 1, j, i => match ops[j]? with
    | some o => o.after.any fun e => Region.binds md e && (e.on == i || needsB md ops f e.on i)
    | none => false
def Closed (md : Region.Mode) (ops : Array Oper) (listed : Array Bool) : Prop :=
  ∀ j, listed.getD j false = true → ∀ o, ops[j]? = some o → ∀ e ∈ o.after, Region.binds md e = true → listed.getD e.on false = true
theorem Closed.start {n : Nat} : Closed md ops (Array.replicate n false) := fun j h => by
  exfalso
  by_cases hj : j < n
  · simp [hj] at h
  · simp [hj] at h
theorem Closed.set {listed : Array Bool} (h : Closed md ops listed) {j : Nat} (hj : j ∈ Region.ready md ops listed) : Closed md ops (listed.setIfInBounds j true) := fun k hk o ho e he hb => by
  obtain ⟨_, oj, hoj, hall⟩ := mem_ready.1 hj
  by_cases hkj : k = j
  · subst hkj
    rw [hoj] at ho
    cases ho
    exact getD_set_true (hall e he hb)
  · rw [getD_set_ne false (Ne.symm hkj)] at hk
    exact getD_set_true (h k hk o ho e he hb)
theorem needsB_listed {listed : Array Bool} (h : Closed md ops listed) {i : Nat} : ∀ (f j : Nat), (∀ o, ops[j]? = some o → ∀ e ∈ o.after, Region.binds md e = true → listed.getD e.on false = true) → needsB md ops f j i = true → listed.getD i false = true
  | 0, _, _, hn => by simp [needsB] at hn
  | f + 1, j, hd, hn => by
    rw [needsB] at hn
    split at hn
    · rename_i o ho
      rw [Array.any_eq_true'] at hn
      obtain ⟨e, he, h1⟩ := hn
      simp only [Bool.and_eq_true, Bool.or_eq_true, beq_iff_eq] at h1
      obtain ⟨hb, h2⟩ := h1
      have h3 := hd o ho e he hb
      rcases h2 with rfl | h2
      · exact h3
      · exact needsB_listed h f e.on (fun o' ho' e' he' hb' => h e.on h3 o' ho' e' he' hb') h2
    · cases hn
theorem needsB_ready {listed : Array Bool} (h : Closed md ops listed) {i j f : Nat} (hj : j ∈ Region.ready md ops listed) (hi : i ∈ Region.ready md ops listed) : needsB md ops f j i = false := by
  cases hn : needsB md ops f j i with
  | false => rfl
  | true =>
    obtain ⟨_, oj, hoj, hall⟩ := mem_ready.1 hj
    have h1 := needsB_listed h f j (fun o ho e he hb => by rw [hoj] at ho; cases ho; exact hall e he hb) hn
    have h2 := (mem_ready.1 hi).1
    rcases Nat.lt_or_ge i listed.size with h' | h'
    · simp [h'] at h1 h2; rw [h1] at h2; cases h2
    · simp [Array.getElem?_eq_none h'] at h1
/-- No store can come up before i. -/
def noSt (md : Region.Mode) (ops : Array Oper) (listed : Array Bool) (i : Nat) : Bool :=
  (List.range ops.size).all fun j => j == i || listed.getD j true || match ops[j]? with
    | some oj => !isSt oj.op || needsB md ops ops.size j i
    | none => true
theorem noSt_spec {listed : Array Bool} {i : Nat} (h : noSt md ops listed i = true) (j : Nat) (oj : Oper) (hj : ops[j]? = some oj) (hne : j ≠ i) (hun : listed.getD j true = false) (hn : needsB md ops ops.size j i = false) : isSt oj.op = false := by
  simp only [noSt, List.all_eq_true, List.mem_range] at h
  have h1 := h j (Array.getElem?_eq_some_iff.1 hj).1
  simp only [hj, Bool.or_eq_true, beq_iff_eq, hne, false_or, hun, Bool.false_eq_true, hn, or_false] at h1
  simpa using h1

theorem wpAnyE_first {Q : Act → World → Prop} {i : Nat} {oi : Oper} {v : Value} (hi : ops[i]? = some oi) (hsel : ∀ (j : Nat) (o : Oper) cs b, ops[j]? = some o → o.op ≠ .select cs b) :
    ∀ (fuel : Nat) (listed : Array Bool) (a : Act) (w : World),
      Closed md ops listed →
      (∀ j oj, ops[j]? = some oj → j ≠ i → listed.getD j true = false → needsB md ops ops.size j i = false → isSt oj.op = false) →
      (∀ j oj, ops[j]? = some oj → j ≠ i → listed.getD j true = false → (∀ e ∈ oj.after, Region.binds md e = true → e.on ≠ i) → oi.apart ops oj = true) →
      i ∈ Region.ready md ops listed → YieldsE P ops oi v a w →
      wpAnyE P md ops Q fuel (listed.setIfInBounds i true) (a.put oi.dst v) w → wpAnyE P md ops Q (fuel + 1) listed a w := by
  intro fuel
  induction fuel with
  | zero =>
    intro listed a w _ _ _ hr hy H
    refine ⟨fun h => (by rw [h] at hr; cases hr), fun j hj => ?_⟩
    by_cases hji : j = i
    · subst hji; exact hy.eOp hi H
    · have := ready_mono hj hji
      rw [H.1] at this
      cases this
  | succ fuel ih =>
    intro listed a w hcl hst hfree hr hy H
    refine ⟨fun h => (by rw [h] at hr; cases hr), fun j hj => ?_⟩
    by_cases hji : j = i
    · subst hji; exact hy.eOp hi H
    · have h1 := H.2 j (ready_mono hj hji)
      obtain ⟨hjun, oj, hoj, hall⟩ := mem_ready.1 hj
      have hnot : ∀ e ∈ oj.after, Region.binds md e = true → e.on ≠ i := fun e he hb heq => by
        have h1 := hall e he hb
        have h0 := (mem_ready.1 hr).1
        rw [heq] at h1
        rcases Nat.lt_or_ge i listed.size with h' | h'
        · simp [h'] at h0 h1; rw [h0] at h1; cases h1
        · simp [Array.getElem?_eq_none h'] at h1
      have h2 := eOp_put hoj (hfree j oj hoj hji hjun hnot) (fun cs b => hsel i oi cs b hi) (fun cs b => hsel j oj cs b hoj) (hst j oj hoj hji hjun (needsB_ready hcl hj hr)) hy h1
      have hfree' : ∀ k ok, ops[k]? = some ok → k ≠ i → (listed.setIfInBounds j true).getD k true = false →
          (∀ e ∈ ok.after, Region.binds md e = true → e.on ≠ i) → oi.apart ops ok = true := fun k ok hk hki hun hno => by
        refine hfree k ok hk hki ?_ hno
        by_cases hjk : j = k
        · subst hjk; exact hjun
        · rw [getD_set_ne true hjk] at hun; exact hun
      have hst' : ∀ k ok, ops[k]? = some ok → k ≠ i → (listed.setIfInBounds j true).getD k true = false → needsB md ops ops.size k i = false → isSt ok.op = false := fun k ok hk hki hun hno => by
        refine hst k ok hk hki ?_ hno
        by_cases hjk : j = k
        · subst hjk; exact hjun
        · rw [getD_set_ne true hjk] at hun; exact hun
      refine eOp_mono (fun a' w' h3 => ih (listed.setIfInBounds j true) a' w' (hcl.set hj) hst' hfree' (ready_mono hr (Ne.symm hji)) h3.1 ?_) h2
      rw [Array.setIfInBounds_comm _ _ hji]
      exact h3.2

def rdAt (ops : Array Oper) (i : Nat) : Bool := match ops[i]? with | some o => isRd o.op | none => false

/-- The order l serves: each operation may come up, and is either free and reads, or the only one that may come up. -/
def ordFrom (md : Region.Mode) (ops : Array Oper) : List Nat → Array Bool → Bool
  | [], listed => (Region.ready md ops listed).isEmpty
  | i :: l, listed => (Region.ready md ops listed).contains i && ((rdAt ops i && Region.free md ops listed i && noSt md ops listed i) || Region.ready md ops listed == [i]) && ordFrom md ops l (listed.setIfInBounds i true)
def ordB (ops : Array Oper) (l : List Nat) : Bool := Region.noSelect ops && l.length == ops.size && ordFrom .any ops l (Array.replicate ops.size false)

/-- The walk in the order l. -/
def wpI (P : Program) (ops : Array Oper) (Q : Act → World → Prop) : List Nat → Act → World → Prop
  | [], a, w => Q a w
  | i :: l, a, w => eOp P ops i (wpI P ops Q l) a w

theorem wpAnyE_ord {Q : Act → World → Prop} (hs : Region.noSelect ops = true) : ∀ (l : List Nat) (listed : Array Bool) (a : Act) (w : World),
    Closed md ops listed → ordFrom md ops l listed = true → wpI P ops Q l a w → wpAnyE P md ops Q l.length listed a w
  | [], _, _, _, _, hB, h => ⟨by simpa [ordFrom] using hB, h⟩
  | i :: l, listed, a, w, hcl, hB, h => by
    simp only [ordFrom, Bool.and_eq_true, Bool.or_eq_true, beq_iff_eq] at hB
    obtain ⟨⟨hr, hf⟩, hB'⟩ := hB
    have h : eOp P ops i (wpI P ops Q l) a w := h
    have ih := fun a' w' => wpAnyE_ord (Q := Q) hs l (listed.setIfInBounds i true) a' w' (hcl.set (by simpa using hr)) hB'
    rcases hf with ⟨⟨hd, hf⟩, hns⟩ | hf
    · unfold rdAt at hd
      cases ho : ops[i]? with
      | none => simp [ho] at hd
      | some o =>
        simp only [ho] at hd
        have h' := h
        unfold eOp at h'
        simp only [ho] at h'
        by_cases hw : Region.wanted o (yielded ops a.tmps) = true
        · simp only [hw, if_true] at h'
          rcases h' with ⟨h1, _⟩ | ⟨h1, v, h2, h3⟩ | ⟨h1, _⟩
          · rw [isSt_rd hd] at h1; cases h1
          · exact wpAnyE_first ho (Region.noSelect_spec hs) l.length listed a w hcl (noSt_spec hns) (Region.free_spec ho hf) (by simpa using hr) (.inl ⟨hw, hd, h2⟩) (ih _ _ h3)
          · rw [h1] at hd; cases hd
        · simp only [hw] at h'
          exact wpAnyE_first ho (Region.noSelect_spec hs) l.length listed a w hcl (noSt_spec hns) (Region.free_spec ho hf) (by simpa using hr) (.inr ⟨by simpa using hw, rfl⟩) (ih _ _ h')
    · refine ⟨fun h0 => ?_, fun j hj => ?_⟩
      · rw [hf] at h0; cases h0
      · rw [hf] at hj
        obtain rfl : j = i := by simpa using hj
        exact eOp_mono ih h

/-- **One walk, in the order 'ord', serves every order.** -/
theorem wp_region_ord {id : Nat} {Q : Exit → Act → World → Prop} {a : Act} {w : World} {l : List Oper} (ord : List Nat) (hm : P.follows .mixedOrders = true) (hB : ordB l.toArray ord = true)
    (h : wpI P l.toArray (fun a' w' => Q .normal a' w') ord a w.drew) : (Code.region id l.toArray true).wp P Q a w := by
  simp only [ordB, Bool.and_eq_true, beq_iff_eq] at hB
  obtain ⟨⟨h1, h2⟩, h3⟩ := hB
  have h4 := wpAnyE_ord h1 ord _ a _ Closed.start h3 h
  rw [h2] at h4
  exact wp_region_any hm (wpAny_of_E (Q := fun a' w' => Q .normal a' w') (fun _ _ h => h) _ _ _ _ h4)

theorem wpI_cons_eq {Q : Act → World → Prop} {i : Nat} {l : List Nat} : wpI P ops Q (i :: l) = eOp P ops i (wpI P ops Q l) := rfl
/-- The order is walked to its end. -/
theorem wpI_nil {Q : Act → World → Prop} {a : Act} {w : World} (h : Q a w) : wpI P ops Q [] a w := h

/-- A reading operation, met by the quiet walk's own step. -/
theorem wpI_rd {Q : Act → World → Prop} {a : Act} {w : World} {l : List Oper} {i : Nat} {rest : List Nat} {o : Oper} (hi : l[i]? = some o) (hr : isRd o.op = true)
    (h : wpQuiet P l.toArray (fun w' => ∃ e, w' = extW w e) (fun a' => wpI P l.toArray Q rest a' w) [o] a) : wpI P l.toArray Q (i :: rest) a w := by
  show eOp P l.toArray i _ a w
  have hi' : l.toArray[i]? = some o := by simpa using hi
  unfold eOp
  simp only [hi']
  unfold wpQuiet at h
  split
  · rename_i hw
    simp only [hw, if_true] at h
    obtain ⟨v, h1, h2⟩ := h
    refine .inr (.inl ⟨hr, v, fun w' hb => ?_, h2⟩)
    have h3 := h1 w' ⟨w', extW_of hb⟩
    unfold Oper.quietAt at h3
    cases hx : (execOp a.eval o).run P w' with
    | ok n w2 =>
      rw [hx] at h3
      cases n <;> simp only [Oper.quietUpon] at h3 <;> simp only [rdUpon]
      case value u => exact h3
      case skip => exact h3
      case enter f args => exact absurd hx (noEnter hr)
    | halt x w2 => rw [hx] at h3; simp only [Oper.quietUpon] at h3
  · rename_i hw
    simp only [hw] at h
    exact h

/-- An operation that a guard leaves out. -/
theorem wpI_skip {Q : Act → World → Prop} {a : Act} {w : World} {l : List Oper} {i : Nat} {rest : List Nat} {o : Oper} (hi : l[i]? = some o) (hw : Region.wanted o (yielded l.toArray a.tmps) = false)
    (h : wpI P l.toArray Q rest (a.put o.dst undef) w) : wpI P l.toArray Q (i :: rest) a w := by
  show eOp P l.toArray i _ a w
  have hi' : l.toArray[i]? = some o := by simpa using hi
  unfold eOp
  simp only [hi', hw]
  exact h

/-- A call. -/
theorem wpI_call {Q : Act → World → Prop} {a : Act} {w : World} {l : List Oper} {i : Nat} {rest : List Nat} {o : Oper} (hi : l[i]? = some o) (hr : isRd o.op = false) (hw : Region.wanted o (yielded l.toArray a.tmps) = true)
    {f : FuncId} {args : Array Value} (hx : (execOp a.eval o).run P w = .ok (.enter f args) w)
    (h : Calls P f args w (fun e w' => ∃ v, e = .returned v ∧ Below w.heap.size w w' ∧ wpI P l.toArray Q rest (a.put o.dst v) w')) : wpI P l.toArray Q (i :: rest) a w := by
  show eOp P l.toArray i _ a w
  have hi' : l.toArray[i]? = some o := by simpa using hi
  unfold eOp
  simp only [hi', hw, if_true]
  refine .inr (.inr ⟨hr, ?_⟩)
  rw [hx]
  exact ⟨rfl, h.mono fun e w' ⟨v, h1, h2, h3⟩ => ⟨v, h1, Below.ext h2, h3⟩⟩

attribute [irreducible] wpI
end theory
end Go.Proofs.YtgngehfgcogceaaGreatDoor

end
section
/- Regions that draw their order: operations that make memory, store, append. No program in sight. -/
namespace Go.Proofs.YtgngehfgcogceaaGreatDoor
open Go.RowKit

section theory
variable {P : Program} {ops : Array Oper} {md : Region.Mode}

/-- An operation that makes memory. -/
theorem wpI_add {Q : Act → World → Prop} {a : Act} {w : World} {l : List Oper} {i : Nat} {rest : List Nat} {o : Oper} (hi : l[i]? = some o) (hr : isRd o.op = false) (hw : Region.wanted o (yielded l.toArray a.tmps) = true)
    {u : Value} {w' : World} (hx : (execOp a.eval o).run P w = .ok (.value u) w') (hb : Ext w w')
    (h : wpI P l.toArray Q rest (a.put o.dst u) w') : wpI P l.toArray Q (i :: rest) a w := by
  rw [wpI_cons_eq]
  have hi' : l.toArray[i]? = some o := by simpa using hi
  unfold eOp
  simp only [hi', hw, if_true]
  refine .inr (.inr ⟨hr, ?_⟩)
  rw [hx]
  exact ⟨hb, h⟩

/-- A store. -/
theorem wpI_st {Q : Act → World → Prop} {a : Act} {w : World} {l : List Oper} {i : Nat} {rest : List Nat} {o : Oper} (hi : l[i]? = some o) (hr : isSt o.op = true) (hw : Region.wanted o (yielded l.toArray a.tmps) = true)
    {w' : World} (hx : (execOp a.eval o).run P w = .ok .skip w')
    (h : wpI P l.toArray Q rest (a.put o.dst undef) w') : wpI P l.toArray Q (i :: rest) a w := by
  rw [wpI_cons_eq]
  have hi' : l.toArray[i]? = some o := by simpa using hi
  unfold eOp
  simp only [hi', hw, if_true]
  refine .inl ⟨hr, ?_⟩
  rw [hx]
  exact h

/-- An append. -/
theorem wpI_stv {Q : Act → World → Prop} {a : Act} {w : World} {l : List Oper} {i : Nat} {rest : List Nat} {o : Oper} (hi : l[i]? = some o) (hr : isSt o.op = true) (hw : Region.wanted o (yielded l.toArray a.tmps) = true)
    {u : Value} {w' : World} (hx : (execOp a.eval o).run P w = .ok (.value u) w')
    (h : wpI P l.toArray Q rest (a.put o.dst u) w') : wpI P l.toArray Q (i :: rest) a w := by
  rw [wpI_cons_eq]
  have hi' : l.toArray[i]? = some o := by simpa using hi
  unfold eOp
  simp only [hi', hw, if_true]
  refine .inl ⟨hr, ?_⟩
  rw [hx]
  exact h
/-- append onto an own row, in a region that draws its order. -/
theorem wpI_ap {Q : Act → World → Prop} {a : Act} {w : World} {l : List Oper} {i : Nat} {rest : List Nat} {o : Oper} (hi : l[i]? = some o) (hw : Region.wanted o (yielded l.toArray a.tmps) = true) {s x : Operand} {t tx : TypeId}
    (ho : o.op = .call { callee := .builtin .append, args := #[s, x], argTypes := #[t, tx] })
    {e : TypeId} {size bytes : Nat} (T : ElemT P t e size bytes) {B : Nat} {w0 : World} (hB : Below B w0 w) {v : Value} {n : Nat} {xs : List Value} (hs : a.eval s = v) (hown : w.ownsRow B e size v n xs)
    {m : Nat} {news : List Value} (hsrc : Src P size tx (a.eval x) m news w) (hbytes : (n + m) * bytes ≤ 140737488355328) (hbase : B ≤ w.heap.size)
    (h : ∀ v' w', w'.ownsRow B e size v' (n + m) (xs ++ news) → Below B w0 w' → w.heap.size ≤ w'.heap.size → wpI P l.toArray Q rest (a.put o.dst v') w') : wpI P l.toArray Q (i :: rest) a w := by
  obtain ⟨v', w', hr, h2, h3, _⟩ := run_ap (ty := o.type) T hown hsrc (T.maxLen_of hbytes) hbytes hbase
  refine wpI_stv hi (by rw [ho]; rfl) hw (u := v') (w' := w') ?_ (h v' w' h2 (hB.grown h3 hbase fun k hk => (hown.lt k hk).1) h3.size)
  unfold execOp
  simp only [ho, resolve, invoke, builtin, Sem.run_bind, Sem.run_pure, Result.andThen_ok, List.map_toArray, List.map_cons, List.map_nil, hs, hr]

end theory
end Go.Proofs.YtgngehfgcogceaaGreatDoor

end
section
/- Regions that draw their order and in which several operations make memory: one obligation for each operation, whatever the order. No program in sight. -/
namespace Go.Proofs.YtgngehfgcogceaaGreatDoor
open Go.RowKit

theorem Box2.under {w w' : World} {r : Nat} {x y : Value} (h : Box2 w r x y) (hx : Ext w w') : Box2 w' r x y :=
  ⟨hx.cell _ _ h.c0, hx.cell _ _ h.c1, (hx.frozen _ _ h.c0).trans h.f0, (hx.frozen _ _ h.c1).trans h.f1, Nat.lt_of_lt_of_le h.lt hx.size⟩

/-- What is said of an operation's value; it stands when memory is added. -/
structure Hold where
  R : Value → World → Prop
  st : ∀ v w w', R v w → Ext w w' → R v w'
def Hold.any : Hold := ⟨fun _ _ => True, fun _ _ _ _ _ => trivial⟩
def Hold.eq (v : Value) : Hold := ⟨fun u _ => u = v, fun _ _ _ h _ => h⟩
def Hold.sl (n sz : Nat) (cs : List Value) : Hold := ⟨fun u w => ∃ oa c, u = .slice oa n c ∧ Sl w oa n c sz cs, fun _ _ _ ⟨oa, c, h1, h2⟩ hb => ⟨oa, c, h1, h2.under hb⟩⟩
def Hold.box (B : Nat) (x y : Value) : Hold := ⟨fun u w => ∃ r, u = .pointer (some ⟨r, 0, none⟩) ∧ B ≤ r ∧ Box2 w r x y, fun _ _ _ ⟨r, h1, h2, h3⟩ hb => ⟨r, h1, h2, h3.under hb⟩⟩

section theory
variable {P : Program} {l : List Oper} {md : Region.Mode}
/-- A store of what the cell holds. -/
theorem setCell_id {w : World} {p : Addr} {v : Value} (h : w.cell? p = some v) : w.setCell p v = w := by
  have e : (w.setCell p v).heap = w.heap := by
    apply Array.ext
    · simp [World.setCell]
    · intro i h1 h2
      simp only [World.setCell, Array.getElem_modify]
      by_cases hi : p.block = i
      · subst hi
        simp only [if_true]
        unfold World.cell? at h
        rw [Array.getElem?_eq_getElem h2] at h
        cases hb : w.heap[p.block] with
        | cells c e fr =>
          rw [hb] at h
          simp only at h ⊢
          split
          · rfl
          · rename_i hs
            rw [if_neg hs] at h
            have : c.setIfInBounds p.off v = c := by
              obtain ⟨hl, hv⟩ := Array.getElem?_eq_some_iff.1 h
              subst hv
              apply Array.ext
              · simp
              · intro k g1 g2
                rw [Array.getElem_setIfInBounds]
                split
                · rename_i e; subst e; rfl
                · rfl
            rw [this]
        | _ => rfl
      · simp [hi]
  have e2 : w.setCell p v = { w with heap := (w.setCell p v).heap } := rfl
  rw [e2, e]

/-- What the slots hold while the region runs. -/
structure Frame (l : List Oper) (x : Nat → Value) (a0 A : Act) : Prop where
  tmp : ∀ (j : Nat) (o : Oper) (d : Tmp), l[j]? = some o → o.dst = some d → d < a0.tmps.size → A.tmps.getD d undef = x j
  old : ∀ (d : Tmp), (l.all fun o => o.dst != some d) = true → A.tmps.getD d undef = a0.tmps.getD d undef

theorem Frame.was {x : Nat → Value} {a0 A : Act} (F : Frame l x a0 A) {d : Tmp} {v : Value} (h : (l.all fun o => o.dst != some d) = true) (hv : a0.tmps.getD d undef = v) : A.tmps.getD d undef = v ∧ A.tmps[d]?.getD undef = v := by
  have := (F.old d h).trans hv
  exact ⟨this, by rwa [Array.getD_eq_getD_getElem?] at this⟩

end theory
end Go.Proofs.YtgngehfgcogceaaGreatDoor

end
section
/- What functions return that make a list of integers, alone or with a fault. No program in sight. -/
namespace Go.Proofs.YtgngehfgcogceaaGreatDoor
open Go.RowKit

/-- A row of the call's own. -/
def RInts (t : TypeId) (xs : List Int) (w : World) (e : Ending) (w' : World) : Prop :=
  ∃ o c, e = .returned (.slice o xs.length c) ∧ w'.ownsRow w.heap.size t 1 (.slice o xs.length c) xs.length (intVals xs) ∧ Below w.heap.size w w'
/-- A row of the call's own, and a fault. -/
def RIntsF (t : TypeId) (xs : List Int) (F : Int × Int) (w : World) (e : Ending) (w' : World) : Prop :=
  ∃ o c, e = .returned (.tuple #[.slice o xs.length c, .agg #[.int .i64 F.1, .int .i64 F.2]]) ∧ w'.ownsRow w.heap.size t 1 (.slice o xs.length c) xs.length (intVals xs) ∧ Below w.heap.size w w'
theorem RIntsF.bad {t : TypeId} {xs : List Int} {F G : Int × Int} {w w' : World} (hG : F = G) (hx : xs = []) (hb : Below w.heap.size w w') : RIntsF t xs F w (.returned (.tuple #[.slice none 0 0, .agg #[.int .i64 G.1, .int .i64 G.2]])) w' := by
  subst hG; subst hx
  exact ⟨none, 0, rfl, World.ownsRow_nil _ _ _ _, hb⟩
theorem own_base0 {w : World} {B B' : Nat} {e : TypeId} {size n : Nat} {v : Value} {xs : List Value} (h : w.ownsRow B e size v n xs) (hB : B' ≤ B) : w.ownsRow B' e size v n xs := by
  refine ⟨h.1, ?_⟩
  rcases h.2 with h0 | ⟨g, c, cur, h1, h2, h3⟩
  · exact .inl h0
  · exact .inr ⟨g, c, cur, h1, by omega, h3⟩
theorem RIntsF.ok {t : TypeId} {xs : List Int} {F : Int × Int} {w w' : World} {v : Value} {n : Nat} (hF : F = (0, 0)) {B : Nat} (hn : n = xs.length) (hown : w'.ownsRow B t 1 v n (intVals xs)) (hB : w.heap.size ≤ B) (hb : Below w.heap.size w w') : RIntsF t xs F w (.returned (.tuple #[v, .agg #[.int .i64 0, .int .i64 0]])) w' := by
  subst hF; subst hn
  obtain ⟨oa, cap, rfl⟩ := own_slice hown
  exact ⟨oa, cap, rfl, own_base0 hown hB, hb⟩
theorem RInts.ok {t : TypeId} {xs : List Int} {w w' : World} {v : Value} {n : Nat} {B : Nat} (hn : n = xs.length) (hown : w'.ownsRow B t 1 v n (intVals xs)) (hB : w.heap.size ≤ B) (hb : Below w.heap.size w w') : RInts t xs w (.returned v) w' := by
  subst hn
  obtain ⟨oa, cap, rfl⟩ := own_slice hown
  exact ⟨oa, cap, rfl, own_base0 hown hB, hb⟩
/-- A literal is a row of one's own. -/
theorem own_lit {w : World} {B g n size : Nat} {e : TypeId} {C : List Value} (hg : g = w.heap.size) (hB : B ≤ g) (hl : C.length = n * size) (hm : n ≤ maxLen) : (w.alloc (.cells C.toArray e)).ownsRow B e size (.slice (some ⟨g, 0, none⟩) n n) n C := by
  subst hg
  refine ⟨hl, .inr ⟨w.heap.size, n, C.toArray, rfl, hB, heap_alloc_new _ _, Nat.le_refl _, hm, by simpa using hl, ?_⟩⟩
  simp only
  rw [← hl, List.take_length]
end Go.Proofs.YtgngehfgcogceaaGreatDoor

end
section
/- A block of any number of cells. No program in sight. -/
namespace Go.Proofs.YtgngehfgcogceaaGreatDoor
open Go.RowKit

/-- A block that begins with the cells cs; none of them is marked. -/
structure Blk (w : World) (r : Nat) (cs : List Value) : Prop where
  c : ∀ j u, cs[j]? = some u → w.cell? ⟨r, j, none⟩ = some u
  f : ∀ j, j < cs.length → w.frozen? ⟨r, j, none⟩ = false
  lt : r < w.heap.size
theorem Blk.new (w : World) (cs : List Value) (t : TypeId) {g : Nat} (hg : g = w.heap.size) : Blk (w.alloc (.cells cs.toArray t)) g cs := by
  subst hg
  exact ⟨fun j u hu => by simp [hu], fun j _ => World.frozen?_alloc_at _ _ _ _ rfl, by simp⟩
theorem Blk.below {w w' : World} {r : Nat} {cs : List Value} (h : Blk w r cs) {B : Nat} (hb : Below B w w') (hr : r < B) : Blk w' r cs :=
  ⟨fun j u hu => (hb.cell (p := ⟨r, j, none⟩) hr).trans (h.c j u hu), fun j hj => (hb.frozen (p := ⟨r, j, none⟩) hr).trans (h.f j hj), Nat.lt_of_lt_of_le h.lt hb.size⟩
theorem Blk.alloc {w : World} {r : Nat} {cs : List Value} (h : Blk w r cs) (o : Obj) : Blk (w.alloc o) r cs := h.below (B := w.heap.size) ((Below.refl _ _).alloc (Nat.le_refl _) _) h.lt
theorem Blk.drew {w : World} {r : Nat} {cs : List Value} (h : Blk w r cs) : Blk w.drew r cs := h.below (B := w.heap.size) ((Below.refl _ _).drew) h.lt
theorem Blk.drewN {w : World} {r : Nat} {cs : List Value} (h : Blk w r cs) (n : Nat) : Blk (w.drewN n) r cs := h.below (B := w.heap.size) (Go.below_drewN (Below.refl _ _) n) h.lt
theorem Blk.set {w : World} {r : Nat} {cs : List Value} (h : Blk w r cs) {k : Nat} (hk : k < cs.length) (v : Value) : Blk (w.setCell ⟨r, k, none⟩ v) r (cs.set k v) := by
  refine ⟨fun j u hu => ?_, fun j hj => by rw [frozen_setCell]; exact h.f j (by simpa using hj), by simpa using h.lt⟩
  rw [List.getElem?_set] at hu
  split at hu
  · rename_i hjk
    subst hjk
    obtain rfl : v = u := by simpa [hk] using hu
    exact World.cell?_setCell_same _ _ _ (h.c k _ (List.getElem?_eq_getElem hk))
  · rename_i hjk
    rw [World.cell?_setCell_other _ _ _ _ (by intro h2; injection h2 with _ h3; exact hjk h3)]
    exact h.c j u hu
theorem Blk.far {w : World} {r : Nat} {cs : List Value} (h : Blk w r cs) {a : Addr} (hne : a.block ≠ r) (v : Value) : Blk (w.setCell a v) r cs := by
  refine ⟨fun j u hu => ?_, fun j hj => by rw [frozen_setCell]; exact h.f j hj, by simpa using h.lt⟩
  rw [World.cell?_setCell_other _ _ _ _ (by intro h2; apply hne; have := congrArg Addr.block h2; first | exact this | exact this.symm)]
  exact h.c j u hu
theorem Box2.far {w : World} {r : Nat} {x y : Value} (h : Box2 w r x y) {a : Addr} (hne : a.block ≠ r) (v : Value) : Box2 (w.setCell a v) r x y := by
  refine ⟨?_, ?_, by rw [frozen_setCell]; exact h.f0, by rw [frozen_setCell]; exact h.f1, by simpa using h.lt⟩
  · rw [World.cell?_setCell_other _ _ _ _ (by intro h2; apply hne; have := congrArg Addr.block h2; first | exact this | exact this.symm)]; exact h.c0
  · rw [World.cell?_setCell_other _ _ _ _ (by intro h2; apply hne; have := congrArg Addr.block h2; first | exact this | exact this.symm)]; exact h.c1
end Go.Proofs.YtgngehfgcogceaaGreatDoor

end
