/- Texts joined. -/
import Derived.Test.YtolfgcoalihmgaaGreatDoorMPr
import Derived.Test.YtolfgcoalihmgaaGreatDoorMQb
import Derived.Lib.Join
namespace Go.Proofs.YtolfgcoalihmgaaGreatDoor
section
namespace Pl
theorem index_no {c : UInt8} : ∀ {l : List UInt8}, c ∉ l → Lib.index l [c] = -1
 | [], _ => rfl
 | b :: l, h => by
   have h1 : c ≠ b := fun e => h (by simp [e])
   have h2 := index_no (c := c) (l := l) (fun e => h (by simp [e]))
   unfold Lib.index
   rw [if_neg (by simp [h1]), h2]; rfl
theorem index_at {c : UInt8} : ∀ {a b : List UInt8}, c ∉ a → Lib.index (a ++ c :: b) [c] = a.length
 | [], b, _ => by
   show Lib.index (c :: b) [c] = _
   unfold Lib.index
   rw [if_pos (by simp)]; rfl
 | d :: a, b, h => by
   have h1 : c ≠ d := fun e => h (by simp [e])
   have h2 := index_at (c := c) (a := a) (b := b) (fun e => h (by simp [e]))
   show Lib.index (d :: (a ++ c :: b)) [c] = _
   unfold Lib.index
   rw [if_neg (by simp [h1]), h2, if_neg (by rw [beq_iff_eq]; omega)]
   simp
theorem cut_no {c : UInt8} {l : List UInt8} (h : c ∉ l) : Lib.cut l [c] = (l, [], false) := by
 unfold Lib.cut; rw [index_no h, if_neg (by decide)]
theorem cut_at {c : UInt8} {a b : List UInt8} (h : c ∉ a) : Lib.cut (a ++ c :: b) [c] = (a, b, true) := by
 unfold Lib.cut; rw [index_at h, if_pos (by omega)]
 simp
theorem split_no {c : UInt8} {l : List UInt8} (h : c ∉ l) : Lib.split l [c] = [l] := by
 unfold Lib.split; rw [Lib.count_miss (index_no h)]; rfl
theorem split_at {c : UInt8} {a b : List UInt8} (h : c ∉ a) : Lib.split (a ++ c :: b) [c] = a :: Lib.split b [c] := by
 have hi : Lib.index (a ++ c :: b) [c] = (a.length : Int) := index_at h
 unfold Lib.split
 rw [Lib.count_hit (by simp) hi]
 have hd : (a ++ c :: b).drop (a.length + [c].length) = b := by
  rw [List.drop_append]; simp
 rw [hd, Nat.add_comm 1, Lib.splitK, if_neg (by rw [hi, beq_iff_eq]; omega), hi]
 have e1 : ((a.length : Int).toNat + 0) = a.length := by omega
 have e2 : ((a.length : Int).toNat + [c].length) = a.length + [c].length := by omega
 rw [e1, e2, hd, List.take_left]
theorem split_rest : ∀ (x : List UInt8) (l : List (List UInt8)), (46 : UInt8) ∉ x → (∀ y ∈ l, (46 : UInt8) ∉ y) → Lib.split (x ++ restT l) [46] = x :: l
 | x, [], h, _ => by rw [show restT [] = [] from rfl, List.append_nil]; exact split_no h
 | x, y :: l, h, hl => by
   rw [show restT (y :: l) = 46 :: (y ++ restT l) from rfl, split_at h, split_rest y l (hl y (by simp)) (fun z hz => hl z (by simp [hz]))]
def atoiV (l : List UInt8) : Int := match Lib.atoiAll l with
 | .ok v => v
 | Lib.NumEnd.syntax => 0
 | .range => Lib.atoiSat l
theorem parse10 (B : Int) (hB : B ≤ 9223372036854775808) (l : List UInt8) : ∀ (acc : Nat), digsB l = true → (acc : Int) * 10 ^ l.length + valL l < B → Lib.parseUint10 acc l = .ok ((acc : Int) * 10 ^ l.length + valL l).toNat := by
 induction l with
 | nil =>
   intro acc _ _
   have e : (acc : Int) * 10 ^ ([] : List UInt8).length + valL [] = acc := by simp [valL]
   rw [e]
   rfl
 | cons c l ih =>
   intro acc hd hb
   simp only [digsB, List.all_cons, Bool.and_eq_true] at hd
   have hc := digB_iff.1 hd.1
   have hv := valL_bounds (s := l) hd.2
   have hp : (1 : Int) ≤ 10 ^ l.length := Int.pow_pos (show (0 : Int) < 10 by omega)
   have e : (acc : Int) * 10 ^ (c :: l).length + valL (c :: l) = (((acc * 10 + (c.toNat - 48) : Nat) : Int)) * 10 ^ l.length + valL l := by
    rw [valL_cons, List.length_cons, Int.pow_succ, ← Int.add_assoc]
    congr 1
    rw [show (10 : Int) ^ l.length * 10 = 10 * 10 ^ l.length from Int.mul_comm _ _, ← Int.mul_assoc, ← Int.add_mul]
    congr 1
    omega
   rw [e] at hb ⊢
   have hb2 : ((acc * 10 + (c.toNat - 48) : Nat) : Int) < B := by
    have := Int.mul_le_mul_of_nonneg_left hp (show 0 ≤ ((acc * 10 + (c.toNat - 48) : Nat) : Int) by omega)
    omega
   rw [Lib.parseUint10, if_pos hc, if_neg (by omega), if_neg (by omega)]
   exact ih _ hd.2 hb
theorem atoi_digS {n : Int} (h : inB n 0 1000000000 = true) : Lib.atoiAll (digS n) = .ok n := by
 have h1 := inB_true.1 h
 have hd := digS_digs n
 have hv : valL (digS n) = n := by unfold digS; rw [dS_val]; omega
 have hp := parse10 9223372036854775808 (Int.le_refl _) (digS n) 0 hd (by rw [hv]; simp; omega)
 have hne : digS n ≠ [] := dS_ne _
 rw [hv] at hp
 cases hl : digS n with
 | nil => exact absurd hl hne
 | cons c r =>
   rw [hl] at hp hd
   simp only [digsB, List.all_cons, Bool.and_eq_true] at hd
   have hc := digB_iff.1 hd.1
   have hm : Lib.parseMag (c :: r) = .ok n.toNat := by
    unfold Lib.parseMag
    rw [if_neg (by simp), hp]
    simp
   unfold Lib.atoiAll
   simp only
   rw [if_neg (by omega), hm]
   simp only
   rw [if_neg (by omega), if_neg (by omega), if_neg (by omega)]
   congr 1
   omega
def progTry (s : List UInt8) : Option Ver :=
 if (Lib.split (Lib.cut s [45]).1 [46]).length ≠ 3 then none
 else some ⟨atoiV ((Lib.split (Lib.cut s [45]).1 [46]).getD 0 []), atoiV ((Lib.split (Lib.cut s [45]).1 [46]).getD 1 []), atoiV ((Lib.split (Lib.cut s [45]).1 [46]).getD 2 []),
  if (Lib.cut s [45]).2.2 = true then (Lib.split (Lib.cut s [45]).2.1 [46]).map mkS else []⟩
def progParse (s : List UInt8) : Option Ver := match progTry s with
 | none => none
 | some v => if (vrF v).1 = 0 ∧ verT v = s then some v else none
theorem prog_verT {v : Ver} (h : v.Ok) : progTry (verT v) = some v := by
 have c46 : ∀ x ∈ v.pre.map bsl, (46 : UInt8) ∉ x := fun x hx => by
  obtain ⟨s, hs, rfl⟩ := List.mem_map.1 hx
  exact idc_dot (h.i s hs)
 have hcut : Lib.cut (verT v) [45] = (numT v, (preT (v.pre.map bsl)).drop 1, !(v.pre.map bsl).isEmpty) := by
  unfold verT
  cases hp : v.pre.map bsl with
  | nil => rw [preT, List.append_nil, cut_no (numT_no45 v)]; rfl
  | cons x l => rw [preT, List.cons_append, cut_at (numT_no45 v)]; rfl
 have hsp : Lib.split (numT v) [46] = [digS v.maj, digS v.min, digS v.pat] := by
  unfold numT
  rw [List.append_assoc, List.cons_append, split_at (digS_no46 _), split_at (digS_no46 _), split_no (digS_no46 _)]
 unfold progTry
 rw [hcut]
 simp only
 rw [hsp]
 simp only [List.length_cons, List.length_nil, List.getD_cons_zero, List.getD_cons_succ]
 rw [if_neg (by decide)]
 unfold atoiV
 rw [atoi_digS h.m1, atoi_digS h.m2, atoi_digS h.m3]
 simp only
 congr 1
 refine Ver.ext' rfl rfl rfl ?_
 simp only
 cases hp : v.pre.map bsl with
 | nil =>
   have : v.pre = [] := by simpa using hp
   rw [this]; rfl
 | cons x l =>
   rw [if_pos (by simp), preT, List.cons_append, List.drop_succ_cons, List.drop_zero, split_rest x l (c46 x (by simp [hp])) (fun y hy => c46 y (by simp [hp, hy])), ← hp, map_mkS]
theorem prog_iff {s : List UInt8} {v : Ver} : progParse s = some v ↔ v.Ok ∧ verT v = s := by
 constructor
 · intro h
   unfold progParse at h
   split at h
   · cases h
   · split at h
     · rename_i hc
       cases h
       refine ⟨?_, hc.2⟩
       rcases vrF_cases v with ⟨-, ok⟩ | h2
       · exact ok
       · exact absurd hc.1 h2
     · cases h
 · rintro ⟨h1, rfl⟩
   unfold progParse
   rw [prog_verT h1]
   show (if (vrF v).1 = 0 ∧ verT v = verT v then some v else none) = _
   rw [if_pos ⟨by rw [vrF_ok h1], rfl⟩]
theorem parse_same (s : List UInt8) : progParse s = refParse s := by
 cases h : refParse s with
 | some v => exact prog_iff.2 (ref_iff.1 h)
 | none =>
   cases h2 : progParse s with
   | none => rfl
   | some v => rw [ref_iff.2 (prog_iff.1 h2)] at h; cases h
end Pl
end
section
namespace Pl
theorem split_until {c : UInt8} (s : List UInt8) : Lib.split s [c] = s.takeWhile (· != c) :: (match s.dropWhile (· != c) with | [] => [] | _ :: r => Lib.split r [c]) := by
 by_cases h : c ∈ s
 · obtain ⟨a, b, e, ha⟩ := List.append_of_mem h |>.elim fun _ _ => List.eq_append_cons_of_mem h
   subst e
   rw [split_at ha]
   have h1 : ∀ x ∈ a, (x != c) = true := fun x hx => by rw [bne_iff_ne]; exact fun e => ha (e ▸ hx)
   rw [List.takeWhile_append_of_pos h1, List.dropWhile_append_of_pos h1]
   simp
 · rw [split_no h]
   have h1 : ∀ x ∈ s, (x != c) = true := fun x hx => by rw [bne_iff_ne]; exact fun e => h (e ▸ hx)
   have e1 : s.takeWhile (· != c) = s := by
    have := List.takeWhile_append_of_pos (l₂ := []) h1
    simpa using this
   have e2 : s.dropWhile (· != c) = [] := by
    have := List.dropWhile_append_of_pos (l₂ := []) h1
    simpa using this
   rw [e1, e2]
def barS : List UInt8 := [32, 124, 124, 32]
theorem bars_no {s : List UInt8} (h : ∀ j, j ≤ s.length → Lib.occAt s barS j = false) : Lib.split s barS = [s] := by
 unfold Lib.split; rw [Lib.count_miss (Lib.index_none h)]; rfl
theorem bars_at {s : List UInt8} {i : Nat} (hi : i ≤ s.length) (h : Lib.occAt s barS i = true) (hn : ∀ j, j < i → Lib.occAt s barS j = false) : Lib.split s barS = s.take i :: Lib.split (s.drop (i + 4)) barS := by
 have e := Lib.index_first hi h hn
 unfold Lib.split
 rw [Lib.count_hit (by decide) e, show barS.length = 4 from rfl, Nat.add_comm 1, Lib.splitK, if_neg (by rw [e, beq_iff_eq]; omega), e]
 rw [show ((i : Int).toNat + 0) = i by omega, show (i : Int).toNat = i by omega, show barS.length = 4 from rfl]
/-! Terms -/
def opB (c : UInt8) : Bool := c == 62 || c == 60 || c == 61 || c == 94 || c == 126
def upR (v : Ver) : List Ivl := [⟨v, Ver.zero, true⟩]
def oneR (a b : Ver) : List Ivl := if verCmp a b < 0 then [⟨a, b, false⟩] else []
def capV (v : Ver) : Ver := if v.maj ≠ 0 then ⟨v.maj + 1, 0, 0, [zeroId]⟩ else if v.min ≠ 0 then ⟨0, v.min + 1, 0, [zeroId]⟩ else ⟨0, 0, v.pat + 1, [zeroId]⟩
def tilV (v : Ver) : Ver := ⟨v.maj, v.min + 1, 0, [zeroId]⟩
def bndV (op : List UInt8) (v : Ver) : Ver := if op = [126] then tilV v else if op = [94] then capV v else verNext v
def opR (op : List UInt8) (v : Ver) : List Ivl × Int :=
 if op = [62, 61] then (upR v, 0) else if op = [60] then (oneR lowV v, 0)
 else if (vrF (bndV op v)).1 ≠ 0 then ([], 10)
 else if op = [62] then (upR (bndV op v), 0) else if op = [60, 61] then (oneR lowV (bndV op v), 0) else (oneR v (bndV op v), 0)
def opsL : List (List UInt8) := [[62, 61], [60, 61], [62], [60], [61], [94], [126]]
def termR (s : List UInt8) : List Ivl × Int :=
 if s = [42] then (upR lowV, 0) else match refParse (s.dropWhile opB) with
 | none => ([], 1)
 | some v => if s.takeWhile opB ∈ opsL then opR (s.takeWhile opB) v else ([], 1)
def tryOps (s : List UInt8) : List (List UInt8) → List Ivl × Int
 | [] => ([], 1)
 | op :: r => if op.isPrefixOf s = true then (match refParse (s.drop op.length) with
   | none => ([], 1)
   | some v => opR op v) else tryOps s r
def termP (s : List UInt8) : List Ivl × Int := if s = [42] then (upR lowV, 0) else tryOps s opsL
theorem dig_noop {c : UInt8} (h : digB c = true) : opB c = false := by
 have := digB_iff.1 h
 unfold opB
 simp only [Bool.or_eq_false_iff, beq_eq_false_iff_ne, ne_eq, ← UInt8.toNat_inj]
 have e1 : (62 : UInt8).toNat = 62 := rfl
 have e2 : (60 : UInt8).toNat = 60 := rfl
 have e3 : (61 : UInt8).toNat = 61 := rfl
 have e4 : (94 : UInt8).toNat = 94 := rfl
 have e5 : (126 : UInt8).toNat = 126 := rfl
 omega
theorem verT_head (v : Ver) : ∃ c r, verT v = c :: r ∧ digB c = true := by
 have h1 := dS_ne v.maj.toNat
 have h2 := digS_digs v.maj
 unfold verT numT
 cases e : digS v.maj with
 | nil => exact absurd e h1
 | cons c r =>
   rw [e] at h2
   simp only [digsB, List.all_cons, Bool.and_eq_true] at h2
   exact ⟨c, _, rfl, h2.1⟩
theorem parse_noop {t : List UInt8} {v : Ver} (h : refParse t = some v) : t.takeWhile opB = [] ∧ t.dropWhile opB = t := by
 obtain ⟨-, e⟩ := ref_iff.1 h
 obtain ⟨c, r, e2, hc⟩ := verT_head v
 rw [← e, e2, List.takeWhile_cons, List.dropWhile_cons, dig_noop hc]
 exact ⟨rfl, rfl⟩
theorem term_hit {op t : List UInt8} {v : Ver} (ho : ∀ c ∈ op, opB c = true) (hm : op ∈ opsL) (h : refParse t = some v) (hs : op ++ t ≠ [42]) : termR (op ++ t) = opR op v := by
 obtain ⟨h1, h2⟩ := parse_noop h
 unfold termR
 rw [if_neg hs, List.dropWhile_append_of_pos ho, List.takeWhile_append_of_pos ho, h1, h2, List.append_nil, h]
 simp only
 rw [if_pos hm]
theorem take_prefix (p : UInt8 → Bool) (s : List UInt8) : s.takeWhile p <+: s := ⟨_, List.takeWhile_append_dropWhile⟩
theorem term_step {op s : List UInt8} (ho : ∀ c ∈ op, opB c = true) (hm : op ∈ opsL) (hs : s ≠ [42]) (hp : op <+: s) (hx : ∀ c u, op ++ c :: u ∈ opsL → op ++ c :: u <+: s → False) :
 (match refParse (s.drop op.length) with
 | none => ([], 1)
 | some v => opR op v) = termR s := by
 obtain ⟨t, rfl⟩ := hp
 rw [List.drop_left]
 cases h : refParse t with
 | some v => exact (term_hit ho hm h hs).symm
 | none =>
   simp only
   unfold termR
   rw [if_neg hs, List.dropWhile_append_of_pos ho, List.takeWhile_append_of_pos ho]
   cases e : refParse (t.dropWhile opB) with
   | none => rfl
   | some v =>
     simp only
     rw [if_neg]
     intro hm
     cases e2 : t.takeWhile opB with
     | nil =>
       have e3 : t.dropWhile opB = t := by have := List.takeWhile_append_dropWhile (p := opB) (l := t); rw [e2] at this; simpa using this
       rw [e3, h] at e; cases e
     | cons c u =>
       rw [e2] at hm
       refine hx c u hm ?_
       obtain ⟨z, hz⟩ := take_prefix opB t
       rw [e2] at hz
       exact ⟨z, by rw [← hz, List.append_assoc]⟩
theorem term_same (s : List UInt8) : termP s = termR s := by
 unfold termP
 by_cases h42 : s = [42]
 · rw [if_pos h42]; unfold termR; rw [if_pos h42]
 · rw [if_neg h42]
   unfold opsL
   simp only [tryOps, List.isPrefixOf_iff_prefix]
   by_cases p1 : [62, 61] <+: s
   · rw [if_pos p1]; exact term_step (by decide) (by decide) h42 p1 (fun c u h _ => by simp [opsL] at h)
   rw [if_neg p1]
   by_cases p2 : [60, 61] <+: s
   · rw [if_pos p2]; exact term_step (by decide) (by decide) h42 p2 (fun c u h _ => by simp [opsL] at h)
   rw [if_neg p2]
   by_cases p3 : [62] <+: s
   · rw [if_pos p3]; exact term_step (by decide) (by decide) h42 p3 (fun c u h g => by simp [opsL] at h; obtain ⟨rfl, rfl⟩ := h; exact p1 g)
   rw [if_neg p3]
   by_cases p4 : [60] <+: s
   · rw [if_pos p4]; exact term_step (by decide) (by decide) h42 p4 (fun c u h g => by simp [opsL] at h; obtain ⟨rfl, rfl⟩ := h; exact p2 g)
   rw [if_neg p4]
   by_cases p5 : [61] <+: s
   · rw [if_pos p5]; exact term_step (by decide) (by decide) h42 p5 (fun c u h _ => by simp [opsL] at h)
   rw [if_neg p5]
   by_cases p6 : [94] <+: s
   · rw [if_pos p6]; exact term_step (by decide) (by decide) h42 p6 (fun c u h _ => by simp [opsL] at h)
   rw [if_neg p6]
   by_cases p7 : [126] <+: s
   · rw [if_pos p7]; exact term_step (by decide) (by decide) h42 p7 (fun c u h _ => by simp [opsL] at h)
   rw [if_neg p7]
   unfold termR
   rw [if_neg h42]
   cases e : refParse (s.dropWhile opB) with
   | none => rfl
   | some v =>
     simp only
     rw [if_neg]
     intro hm
     have hp := take_prefix opB s
     unfold opsL at hm
     simp only [List.mem_cons, List.not_mem_nil, or_false] at hm
     rcases hm with h | h | h | h | h | h | h <;> rw [h] at hp
     · exact p1 hp
     · exact p2 hp
     · exact p3 hp
     · exact p4 hp
     · exact p5 hp
     · exact p6 hp
     · exact p7 hp
theorem upR_can {v : Ver} (h : v.Ok) : Can (upR v) := Can.one ⟨h, zero_ok, fun _ => rfl, fun h => Bool.noConfusion h⟩
theorem oneR_can {a b : Ver} (ha : a.Ok) (hb : b.Ok) : Can (oneR a b) := by
 unfold oneR
 split
 · rename_i h; exact Can.one ⟨ha, hb, fun h => Bool.noConfusion h, fun _ => h⟩
 · exact Can.nil
theorem opR_can {op : List UInt8} {v : Ver} (h : v.Ok) : Can (opR op v).1 := by
 unfold opR
 split
 · exact upR_can h
 split
 · exact oneR_can lowV_ok h
 split
 · exact Can.nil
 rename_i hb
 have ok : (bndV op v).Ok := vr_ok (by simpa using hb)
 split
 · exact upR_can ok
 split
 · exact oneR_can lowV_ok ok
 · exact oneR_can h ok
theorem termR_can (s : List UInt8) : Can (termR s).1 := by
 unfold termR
 split
 · exact upR_can lowV_ok
 split
 · exact Can.nil
 rename_i v h
 split
 · exact opR_can (ref_iff.1 h).1
 · exact Can.nil
/-! Alternatives -/
def altF : List Ivl → List (List UInt8) → List Ivl × Int
 | acc, [] => (acc, 0)
 | acc, t :: ts => if (termR t).2 ≠ 0 then ([], (termR t).2) else altF (commonR acc (termR t).1) ts
def altR (s : List UInt8) : List Ivl × Int := altF (upR lowV) (Lib.split s [32])
def altsF : List Ivl → Nat → List (List UInt8) → List Ivl × (Int × Int)
 | out, _, [] => (out, 0, 0)
 | out, i, a :: l => if (altR a).2 ≠ 0 then ([], (altR a).2, (i : Int)) else altsF (unionR out (altR a).1) (i + 1) l
def rngP (s : List UInt8) : List Ivl × (Int × Int) :=
 if (altsF [] 0 (Lib.split s barS)).2.1 ≠ 0 then altsF [] 0 (Lib.split s barS)
 else if 12 < (altsF [] 0 (Lib.split s barS)).1.length then ([], 10, -3) else altsF [] 0 (Lib.split s barS)
theorem altF_can : ∀ {ts : List (List UInt8)} {acc : List Ivl}, Can acc → Can (altF acc ts).1
 | [], _, h => h
 | t :: ts, acc, h => by
   rw [altF]
   split
   · exact Can.nil
   · exact altF_can (commonR_can h (termR_can t)).1
theorem altR_can (s : List UInt8) : Can (altR s).1 := altF_can (upR_can lowV_ok)
end Pl
end
section
namespace Pl
def ivT (x : Ivl) : List UInt8 := 62 :: 61 :: verT x.lo ++ (if x.un = true then [] else 32 :: 60 :: verT x.hi)
def rngT (r : List Ivl) : List UInt8 := if r = [] then [60, 48, 46, 48, 46, 48, 45, 48] else Lib.join (r.map ivT) barS
theorem ivT_len {x : Ivl} (h : x.Ok) : (ivT x).length ≤ 164 := by
 have h1 := verT_len h.lo
 have h2 := verT_len h.hi
 unfold ivT
 split <;> simp only [List.length_append, List.length_cons, List.length_nil] <;> omega
theorem join_cons2 (x y : List UInt8) (l : List (List UInt8)) (s : List UInt8) : Lib.join (x :: y :: l) s = x ++ s ++ Lib.join (y :: l) s := by
 unfold Lib.join
 rw [List.intercalate_cons_cons, List.append_assoc]
end Pl
end
end Go.Proofs.YtolfgcoalihmgaaGreatDoor
