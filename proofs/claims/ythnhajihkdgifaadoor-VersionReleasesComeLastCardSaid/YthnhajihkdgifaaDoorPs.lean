/- Texts of versions: what the program reads is what the reference reads. No program in sight. -/
import Derived.Test.YthnhajihkdgifaaDoorPr
namespace Go.Proofs.YthnhajihkdgifaaDoor
namespace Pl

theorem index_no {c : UInt8} : ∀ {l : List UInt8}, c ∉ l → Lib.index l [c] = -1
  | [], _ => rfl
  | b :: l, h => by
    have h1 : c ≠ b := fun e => h (by simp [e])
    have h2 := index_no (c := c) (l := l) (fun e => h (by simp [e]))
    unfold Lib.index
    rw [if_neg (by simp [h1]), h2]; rfl
theorem index_at {c : UInt8} : ∀ {a b : List UInt8}, c ∉ a → Lib.index (a ++ c :: b) [c] = a.length
  | [], b, _ => by
    show Lib.index (c :: b) [c] = _
    unfold Lib.index
    rw [if_pos (by simp)]; rfl
  | d :: a, b, h => by
    have h1 : c ≠ d := fun e => h (by simp [e])
    have h2 := index_at (c := c) (a := a) (b := b) (fun e => h (by simp [e]))
    show Lib.index (d :: (a ++ c :: b)) [c] = _
    unfold Lib.index
    rw [if_neg (by simp [h1]), h2, if_neg (by rw [beq_iff_eq]; omega)]
    simp
theorem cut_no {c : UInt8} {l : List UInt8} (h : c ∉ l) : Lib.cut l [c] = (l, [], false) := by
  unfold Lib.cut; rw [index_no h, if_neg (by decide)]
theorem cut_at {c : UInt8} {a b : List UInt8} (h : c ∉ a) : Lib.cut (a ++ c :: b) [c] = (a, b, true) := by
  unfold Lib.cut; rw [index_at h, if_pos (by omega)]
  simp
theorem split_no {c : UInt8} {l : List UInt8} (h : c ∉ l) : Lib.split l [c] = [l] := by
  unfold Lib.split; rw [Lib.count_miss (index_no h)]; rfl
theorem split_at {c : UInt8} {a b : List UInt8} (h : c ∉ a) : Lib.split (a ++ c :: b) [c] = a :: Lib.split b [c] := by
  have hi : Lib.index (a ++ c :: b) [c] = (a.length : Int) := index_at h
  unfold Lib.split
  rw [Lib.count_hit (by simp) hi]
  have hd : (a ++ c :: b).drop (a.length + [c].length) = b := by
    rw [List.drop_append]; simp
  rw [hd, Nat.add_comm 1, Lib.splitK, if_neg (by rw [hi, beq_iff_eq]; omega), hi]
  have e1 : ((a.length : Int).toNat + 0) = a.length := by omega
  have e2 : ((a.length : Int).toNat + [c].length) = a.length + [c].length := by omega
  rw [e1, e2, hd, List.take_left]
theorem split_rest : ∀ (x : List UInt8) (l : List (List UInt8)), (46 : UInt8) ∉ x → (∀ y ∈ l, (46 : UInt8) ∉ y) → Lib.split (x ++ restT l) [46] = x :: l
  | x, [], h, _ => by rw [show restT [] = [] from rfl, List.append_nil]; exact split_no h
  | x, y :: l, h, hl => by
    rw [show restT (y :: l) = 46 :: (y ++ restT l) from rfl, split_at h, split_rest y l (hl y (by simp)) (fun z hz => hl z (by simp [hz]))]
/-- The number beside whatever error. -/
def atoiV (l : List UInt8) : Int := match Lib.atoiAll l with
  | .ok v => v
  | Lib.NumEnd.syntax => 0
  | .range => Lib.atoiSat l
theorem parse10 (B : Int) (hB : B ≤ 9223372036854775808) (l : List UInt8) : ∀ (acc : Nat), digsB l = true → (acc : Int) * 10 ^ l.length + valL l < B → Lib.parseUint10 acc l = .ok ((acc : Int) * 10 ^ l.length + valL l).toNat := by
  induction l with
  | nil =>
    intro acc _ _
    have e : (acc : Int) * 10 ^ ([] : List UInt8).length + valL [] = acc := by simp [valL]
    rw [e]
    rfl
  | cons c l ih =>
    intro acc hd hb
    simp only [digsB, List.all_cons, Bool.and_eq_true] at hd
    have hc := digB_iff.1 hd.1
    have hv := valL_bounds (s := l) hd.2
    have hp : (1 : Int) ≤ 10 ^ l.length := Int.pow_pos (show (0 : Int) < 10 by omega)
    have e : (acc : Int) * 10 ^ (c :: l).length + valL (c :: l) = (((acc * 10 + (c.toNat - 48) : Nat) : Int)) * 10 ^ l.length + valL l := by
      rw [valL_cons, List.length_cons, Int.pow_succ, ← Int.add_assoc]
      congr 1
      rw [show (10 : Int) ^ l.length * 10 = 10 * 10 ^ l.length from Int.mul_comm _ _, ← Int.mul_assoc, ← Int.add_mul]
      congr 1
      omega
    rw [e] at hb ⊢
    have hb2 : ((acc * 10 + (c.toNat - 48) : Nat) : Int) < B := by
      have := Int.mul_le_mul_of_nonneg_left hp (show 0 ≤ ((acc * 10 + (c.toNat - 48) : Nat) : Int) by omega)
      omega
    rw [Lib.parseUint10, if_pos hc, if_neg (by omega), if_neg (by omega)]
    exact ih _ hd.2 hb
theorem atoi_digS {n : Int} (h : inB n 0 1000000000 = true) : Lib.atoiAll (digS n) = .ok n := by
  have h1 := inB_true.1 h
  have hd := digS_digs n
  have hv : valL (digS n) = n := by unfold digS; rw [dS_val]; omega
  have hp := parse10 9223372036854775808 (Int.le_refl _) (digS n) 0 hd (by rw [hv]; simp; omega)
  have hne : digS n ≠ [] := dS_ne _
  rw [hv] at hp
  cases hl : digS n with
  | nil => exact absurd hl hne
  | cons c r =>
    rw [hl] at hp hd
    simp only [digsB, List.all_cons, Bool.and_eq_true] at hd
    have hc := digB_iff.1 hd.1
    have hm : Lib.parseMag (c :: r) = .ok n.toNat := by
      unfold Lib.parseMag
      rw [if_neg (by simp), hp]
      simp
    unfold Lib.atoiAll
    simp only
    rw [if_neg (by omega), hm]
    simp only
    rw [if_neg (by omega), if_neg (by omega), if_neg (by omega)]
    congr 1
    omega
def progTry (s : List UInt8) : Option Ver :=
  if (Lib.split (Lib.cut s [45]).1 [46]).length ≠ 3 then none
  else some ⟨atoiV ((Lib.split (Lib.cut s [45]).1 [46]).getD 0 []), atoiV ((Lib.split (Lib.cut s [45]).1 [46]).getD 1 []), atoiV ((Lib.split (Lib.cut s [45]).1 [46]).getD 2 []),
    if (Lib.cut s [45]).2.2 = true then (Lib.split (Lib.cut s [45]).2.1 [46]).map mkS else []⟩
def progParse (s : List UInt8) : Option Ver := match progTry s with
  | none => none
  | some v => if (vrF v).1 = 0 ∧ verT v = s then some v else none
theorem prog_verT {v : Ver} (h : v.Ok) : progTry (verT v) = some v := by
  have c46 : ∀ x ∈ v.pre.map bsl, (46 : UInt8) ∉ x := fun x hx => by
    obtain ⟨s, hs, rfl⟩ := List.mem_map.1 hx
    exact idc_dot (h.i s hs)
  have hcut : Lib.cut (verT v) [45] = (numT v, (preT (v.pre.map bsl)).drop 1, !(v.pre.map bsl).isEmpty) := by
    unfold verT
    cases hp : v.pre.map bsl with
    | nil => rw [preT, List.append_nil, cut_no (numT_no45 v)]; rfl
    | cons x l => rw [preT, List.cons_append, cut_at (numT_no45 v)]; rfl
  have hsp : Lib.split (numT v) [46] = [digS v.maj, digS v.min, digS v.pat] := by
    unfold numT
    rw [List.append_assoc, List.cons_append, split_at (digS_no46 _), split_at (digS_no46 _), split_no (digS_no46 _)]
  unfold progTry
  rw [hcut]
  simp only
  rw [hsp]
  simp only [List.length_cons, List.length_nil, List.getD_cons_zero, List.getD_cons_succ]
  rw [if_neg (by decide)]
  unfold atoiV
  rw [atoi_digS h.m1, atoi_digS h.m2, atoi_digS h.m3]
  simp only
  congr 1
  refine Ver.ext' rfl rfl rfl ?_
  simp only
  cases hp : v.pre.map bsl with
  | nil =>
    have : v.pre = [] := by simpa using hp
    rw [this]; rfl
  | cons x l =>
    rw [if_pos (by simp), preT, List.cons_append, List.drop_succ_cons, List.drop_zero, split_rest x l (c46 x (by simp [hp])) (fun y hy => c46 y (by simp [hp, hy])), ← hp, map_mkS]
theorem prog_iff {s : List UInt8} {v : Ver} : progParse s = some v ↔ v.Ok ∧ verT v = s := by
  constructor
  · intro h
    unfold progParse at h
    split at h
    · cases h
    · split at h
      · rename_i hc
        cases h
        refine ⟨?_, hc.2⟩
        rcases vrF_cases v with ⟨-, ok⟩ | h2
        · exact ok
        · exact absurd hc.1 h2
      · cases h
  · rintro ⟨h1, rfl⟩
    unfold progParse
    rw [prog_verT h1]
    show (if (vrF v).1 = 0 ∧ verT v = verT v then some v else none) = _
    rw [if_pos ⟨by rw [vrF_ok h1], rfl⟩]
/-- The program and the reference read the same. -/
theorem parse_same (s : List UInt8) : progParse s = refParse s := by
  cases h : refParse s with
  | some v => exact prog_iff.2 (ref_iff.1 h)
  | none =>
    cases h2 : progParse s with
    | none => rfl
    | some v => rw [ref_iff.2 (prog_iff.1 h2)] at h; cases h
end Pl
end Go.Proofs.YthnhajihkdgifaaDoor
