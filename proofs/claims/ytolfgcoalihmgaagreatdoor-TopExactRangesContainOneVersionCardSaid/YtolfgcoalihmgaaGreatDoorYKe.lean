/- Regions that draw their order: operations that make memory, store, append. No program in sight. -/
import Derived.Test.YtolfgcoalihmgaaGreatDoorZMKb
import Derived.Test.YtolfgcoalihmgaaGreatDoorZMKe
import Derived.Test.YtolfgcoalihmgaaGreatDoorZMPo
import Derived.Test.YtolfgcoalihmgaaGreatDoorYKa
namespace Go.Proofs.YtolfgcoalihmgaaGreatDoor
open Go.RowKit
section theory
variable {P : Program} {ops : Array Oper} {md : Region.Mode}
/-- append onto an own row, in a region that draws its order. -/
theorem wpI_ap {Q : Act → World → Prop} {a : Act} {w : World} {l : List Oper} {i : Nat} {rest : List Nat} {o : Oper} (hi : l[i]? = some o) (hw : Region.wanted o (yielded l.toArray a.tmps) = true) {s x : Operand} {t tx : TypeId}
 (ho : o.op = .call { callee := .builtin .append, args := #[s, x], argTypes := #[t, tx] })
 {e : TypeId} {size bytes : Nat} (T : ElemT P t e size bytes) {B : Nat} {w0 : World} (hB : Below B w0 w) {v : Value} {n : Nat} {xs : List Value} (hs : a.eval s = v) (hown : w.ownsRow B e size v n xs)
 {m : Nat} {news : List Value} (hsrc : Src P size tx (a.eval x) m news w) (hbytes : (n + m) * bytes ≤ 140737488355328) (hbase : B ≤ w.heap.size)
 (h : ∀ v' w', w'.ownsRow B e size v' (n + m) (xs ++ news) → Below B w0 w' → w.heap.size ≤ w'.heap.size → wpI P l.toArray Q rest (a.put o.dst v') w') : wpI P l.toArray Q (i :: rest) a w := by
 obtain ⟨v', w', hr, h2, h3, _⟩ := run_ap (ty := o.type) T hown hsrc (T.maxLen_of hbytes) hbytes hbase
 refine wpI_stv hi (by rw [ho]; rfl) hw (u := v') (w' := w') ?_ (h v' w' h2 (hB.grown h3 hbase fun k hk => (hown.lt k hk).1) h3.size)
 unfold execOp
 simp only [ho, resolve, invoke, builtin, Sem.run_bind, Sem.run_pure, Result.andThen_ok, List.map_toArray, List.map_cons, List.map_nil, hs, hr]
end theory
end Go.Proofs.YtolfgcoalihmgaaGreatDoor
