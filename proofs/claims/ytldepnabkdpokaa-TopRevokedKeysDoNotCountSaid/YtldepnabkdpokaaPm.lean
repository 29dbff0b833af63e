/- Plain facts: signatures by the keys of a keyring. No program in sight. -/
import Derived.Test.YtldepnabkdpokaaPk
namespace Go.Proofs.Ytldepnabkdpokaa
open Go.RowKit
namespace Pl
def addB (e : Ev) : Bool := e.kind == 1
/-- The signatures of data by the keys that are added. -/
def sgOf (l : List Ev) (d : List UInt8) : List (Int × Int) := (l.filter addB).map fun e => (e.key, signS e.key d)
theorem sgOf_snoc (l : List Ev) (d : List UInt8) (k : Nat) (hk : k < l.length) : sgOf (l.take (k + 1)) d = sgOf (l.take k) d ++ (if addB l[k] = true then [(l[k].key, signS l[k].key d)] else []) := by
  unfold sgOf
  rw [List.take_succ_eq_append_getElem hk, List.filter_append, List.map_append]
  congr 1
  by_cases h : addB l[k] = true
  · rw [if_pos h]; simp [h]
  · rw [if_neg h]; simp [h]
theorem sgOf_length (l : List Ev) (d : List UInt8) : (sgOf l d).length ≤ l.length := by
  unfold sgOf
  rw [List.length_map]
  exact List.length_filter_le _ _
theorem keyAt_ok {xs : List Int} (h1 : ∀ x ∈ xs, isKeyB x = true) (h2 : xs.Pairwise (· < ·)) : ∀ f k, k + f = xs.length → keyAt xs f k = (0, 0)
  | 0, _, _ => rfl
  | f + 1, k, e => by
    have hk : k < xs.length := by omega
    have hg : xs.getD k 0 = xs[k] := by rw [List.getD_eq_getElem?_getD, List.getElem?_eq_getElem hk]; rfl
    rw [keyAt, hg, if_pos (h1 _ (List.getElem_mem hk)), if_neg ?_]
    · exact keyAt_ok h1 h2 f (k + 1) (by omega)
    · rintro ⟨h3, h4⟩
      have hg2 : xs.getD (k - 1) 0 = xs[k - 1]'(by omega) := by rw [List.getD_eq_getElem?_getD, List.getElem?_eq_getElem (by omega)]; rfl
      rw [hg2] at h4
      have := List.pairwise_iff_getElem.1 h2 (k - 1) k (by omega) hk (by omega)
      omega
theorem keysF_ok {xs : List Int} (h0 : xs.length ≤ 12) (h1 : ∀ x ∈ xs, isKeyB x = true) (h2 : xs.Pairwise (· < ·)) : keysF xs = (0, 0) := by
  unfold keysF
  rw [if_pos h0, keyAt_ok h1 h2 _ 0 (by omega)]
theorem Valid.isKey {l : List Ev} (h : Valid l) : ∀ e ∈ l, isKeyB e.key = true := by
  refine Valid.ind (P := fun l => ∀ e ∈ l, isKeyB e.key = true) (fun e he => by cases he) (fun l e _ ih hg x hx => ?_) l.length l rfl h
  rcases List.mem_append.1 hx with hx | hx
  · exact ih x hx
  · rw [List.mem_singleton.1 hx]; exact hg.hkey
theorem ukS_isKey {l : List Ev} (h : Valid l) {u t : Int} : ∀ x ∈ ukS l u t, isKeyB x = true := by
  intro x hx
  obtain ⟨e, h1, _, _, h2, _⟩ := mem_ukS.1 hx
  rw [← h2]
  exact h.isKey e h1
/-- A key that is wanted is valid, and the user's. -/
theorem signer_ok {l : List Ev} (hF : krF l = (0, 0)) (h : Valid l) {u t x : Int} (ht : isTimeB t = true) (hx : x ∈ ukS l u t) : validB l x t = true ∧ validF l x t = (0, 0) ∧ ownerF l x = (0, 0) ∧ ownerV l x = u := by
  have hk := ukS_isKey h x hx
  obtain ⟨h1, h2⟩ := h.mem_ukS.1 hx
  have h3 : 0 ≤ keyTime l x 1 := by
    unfold kvB at h2
    simp only [Bool.and_eq_true, decide_eq_true_eq] at h2
    exact h2.1.1
  have v : validF l x t = (0, 0) := by unfold validF; rw [if_pos (by rw [hF]), if_pos (by rw [hk, ht]; rfl)]
  have o : ownerF l x = (0, 0) := by unfold ownerF; rw [if_pos (by rw [hF]), if_pos hk, if_pos h3]
  refine ⟨?_, v, o, ?_⟩
  · unfold validB; rw [v, h2]; rfl
  · unfold ownerV; rw [o]; exact h1
theorem sgOf_has {l : List Ev} {u t x : Int} {d : List UInt8} (hx : x ∈ ukS l u t) : hasSigned d (sgOf l d) x = true := by
  obtain ⟨e, h1, h2, _, h4, _⟩ := mem_ukS.1 hx
  unfold hasSigned
  rw [List.any_eq_true]
  refine ⟨(e.key, signS e.key d), ?_, ?_⟩
  · unfold sgOf
    exact List.mem_map.2 ⟨e, List.mem_filter.2 ⟨h1, by simp [addB, h2]⟩, rfl⟩
  · simp [h4]
theorem signers_all {l : List Ev} {u t : Int} {d : List UInt8} : signers (ukS l u t) d (sgOf l d) = ukS l u t := by
  unfold signers
  rw [List.filter_eq_self]
  exact fun x hx => sgOf_has hx
theorem signS_dig (k : Int) (l : List UInt8) : isDigestB (signS k l) = true := by
  have h := pairS_range k (ofS l)
  have h2 : pairS k (ofS l) < 2305843009213693951 := h.2
  exact isDigestB_true.2 ⟨h.1, by unfold signS; omega⟩
theorem sigF_ok {xs : List Int} {n : Nat} {sg : List (Int × Int)} (h0 : keysF xs = (0, 0)) (h1 : n ≤ 4096) (h2 : sg.length ≤ 24) (h3 : ∀ s ∈ sg, sigB s = true) : sigF xs n sg = (0, 0) := by
  unfold sigF
  rw [h0, if_pos rfl, if_pos h1, if_pos h2, List.findIdx?_eq_none_iff.2 (fun s hs => by rw [h3 s hs]; rfl)]
theorem sgOf_sig {l : List Ev} (h : ∀ e ∈ l, isKeyB e.key = true) (d : List UInt8) : ∀ s ∈ sgOf l d, sigB s = true := by
  intro s hs
  obtain ⟨e, he, rfl⟩ := List.mem_map.1 hs
  unfold sigB
  rw [h e (List.mem_filter.1 he).1, signS_dig]
  rfl
theorem signers_sub {xs : List Int} {d : List UInt8} {sg : List (Int × Int)} : ∀ x ∈ signers xs d sg, x ∈ xs := fun _ hx => (List.mem_filter.1 hx).1
end Pl
end Go.Proofs.Ytldepnabkdpokaa
