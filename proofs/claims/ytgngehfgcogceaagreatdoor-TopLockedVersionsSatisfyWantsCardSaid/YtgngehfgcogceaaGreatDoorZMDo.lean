/- Texts joined: Dl Dm Do. -/
import Derived.Test.YtgngehfgcogceaaGreatDoorZMBs
import Derived.Test.YtgngehfgcogceaaGreatDoorZMQd
import Derived.Test.YtgngehfgcogceaaGreatDoorZMBv
section
/- Contracts: a prefix cut off; the bounds of the operators ^ and ~. -/
namespace Go.Proofs.YtgngehfgcogceaaGreatDoor
open Go.RowKit

theorem pre_facts {s p : ByteArray} (h : Pl.bsl p <+: Pl.bsl s) : p.size ≤ s.size ∧ ((s.extract 0 p.size).toList == p.toList) = true := by
  have hl : p.size ≤ s.size := h.length_le
  refine ⟨hl, beq_iff_eq.2 (Pl.toList_eq.2 (Pl.bsl_inj ?_))⟩
  have e : Pl.bsl (s.extract 0 p.size) = (Pl.bsl s).take p.size := Lib.extract_from_zero s p.size
  rw [e]
  exact (List.prefix_iff_eq_take.1 h).symm
theorem pre_no {s p : ByteArray} (h : ¬ Pl.bsl p <+: Pl.bsl s) (_ : p.size ≤ s.size) : ((s.extract 0 p.size).toList == p.toList) = false := by
  rw [beq_eq_false_iff_ne, ne_eq, Pl.toList_eq]
  intro e
  have e2 : Pl.bsl (s.extract 0 p.size) = (Pl.bsl s).take p.size := Lib.extract_from_zero s p.size
  rw [e] at e2
  exact h (List.prefix_iff_eq_take.2 e2)
theorem strB (a b : List UInt8) : ((⟨a.toArray⟩ : ByteArray).toList == (⟨b.toArray⟩ : ByteArray).toList) = decide (a = b) := by
  rw [Bool.eq_iff_iff, beq_iff_eq, Pl.toList_eq, decide_eq_true_eq]
  exact ⟨fun h => by have := congrArg Pl.bsl h; simpa [Pl.bsl] using this, fun h => by rw [h]⟩
theorem litePre (s p : ByteArray) (w : World) (b : Bool) (hb : b = decide (Pl.bsl p <+: Pl.bsl s)) (_ : s.size ≤ 9223372036854775807) (_ : p.size ≤ 9223372036854775807) :
    Calls Tryz.prog 97 #[.string s, .string p] w fun e w' => e = .returned (.bool b) ∧ w = w' := by
  by_cases h : p.size ≤ s.size
  · have h2 : decide ((p.size : Int) ≤ (s.size : Int)) = true := by simp; omega
    by_cases hp : Pl.bsl p <+: Pl.bsl s
    · have e := (pre_facts hp).2
      rw [decide_eq_true hp] at hb
      subst hb
      clear hp
      go_enter Tryz.func97, Tryz.ntmps97
      go_wp2
      go_ret
      exact ⟨ret_bool (by first | rfl | exact e), rfl⟩
    · have e := pre_no hp h
      rw [decide_eq_false hp] at hb
      subst hb
      clear hp
      go_enter Tryz.func97, Tryz.ntmps97
      go_wp2
      go_ret
      exact ⟨ret_bool (by first | rfl | exact e), rfl⟩
  · have h2 : decide ((p.size : Int) ≤ (s.size : Int)) = false := by simp; omega
    rw [decide_eq_false (fun hp => h (pre_facts hp).1)] at hb
    subst hb
    go_enter Tryz.func97, Tryz.ntmps97
    go_wp2
    go_ret
    exact ⟨rfl, rfl⟩
theorem liteCut_hit (s p t : ByteArray) (w : World) (h : Pl.bsl s = Pl.bsl p ++ Pl.bsl t) (hs : s.size ≤ 9223372036854775807) :
    Calls Tryz.prog 76 #[.string s, .string p] w fun e w' => e = .returned (.tuple #[.string t, .bool true]) ∧ w = w' := by
  have hp : Pl.bsl p <+: Pl.bsl s := ⟨_, h.symm⟩
  have hl := (pre_facts hp).1
  have C := Lib.hid (fun (W : World) => litePre s p W true (decide_eq_true hp).symm hs (by omega))
  have E : Hid (s.extract p.size s.size = t) := Lib.hid (Pl.bsl_inj (by
    have h1 : Pl.bsl (s.extract p.size s.size) = (Pl.bsl s).drop p.size := by
      show (s.extract p.size s.size).data.toList = _
      rw [Lib.extract_data]
      exact List.take_of_length_le (by rw [List.length_drop]; exact Nat.le_refl _)
    rw [h1, h]
    exact List.drop_left))
  clear hp h
  go_enter Tryz.func76, Tryz.ntmps76
  go_wp2_with fail
  refine (C.out _).mono ?_
  rintro e w' ⟨rfl, rfl⟩
  go_wp2_with fail
  go_ret2
  exact ⟨by rw [← E.out]; rfl, rfl⟩
theorem liteCut_miss (s p : ByteArray) (w : World) (h : ¬ Pl.bsl p <+: Pl.bsl s) (hs : s.size ≤ 9223372036854775807) (hp : p.size ≤ 9223372036854775807) :
    Calls Tryz.prog 76 #[.string s, .string p] w fun e w' => e = .returned (.tuple #[.string s, .bool false]) ∧ w = w' := by
  have C := Lib.hid (fun (W : World) => litePre s p W false (decide_eq_false h).symm hs hp)
  clear h
  go_enter Tryz.func76, Tryz.ntmps76
  go_wp2_with fail
  refine (C.out _).mono ?_
  rintro e w' ⟨rfl, rfl⟩
  go_wp2_with fail
  go_ret2
  exact ⟨rfl, rfl⟩
theorem cutPrefix_hit (s p t : ByteArray) (w : World) (h : Pl.bsl s = Pl.bsl p ++ Pl.bsl t) (hs : s.size ≤ 9223372036854775807) :
    Calls Tryz.prog 52 #[.string s, .string p] w fun e w' => e = .returned (.tuple #[.string t, .bool true]) ∧ w = w' := by
  have C := Lib.hid (fun (W : World) => liteCut_hit s p t W h hs)
  clear h
  go_enter Tryz.func52, Tryz.ntmps52
  go_wp2_with fail
  refine (C.out _).mono ?_
  rintro e w' ⟨rfl, rfl⟩
  go_wp2_with fail
  go_ret2
  exact ⟨rfl, rfl⟩
theorem cutPrefix_miss (s p : ByteArray) (w : World) (h : ¬ Pl.bsl p <+: Pl.bsl s) (hs : s.size ≤ 9223372036854775807) (hp : p.size ≤ 9223372036854775807) :
    Calls Tryz.prog 52 #[.string s, .string p] w fun e w' => e = .returned (.tuple #[.string s, .bool false]) ∧ w = w' := by
  have C := Lib.hid (fun (W : World) => liteCut_miss s p W h hs hp)
  clear h
  go_enter Tryz.func52, Tryz.ntmps52
  go_wp2_with fail
  refine (C.out _).mono ?_
  rintro e w' ⟨rfl, rfl⟩
  go_wp2_with fail
  go_ret2
  exact ⟨rfl, rfl⟩
end Go.Proofs.YtgngehfgcogceaaGreatDoor

end
section
/- Contract: a term of a range is read, by the program. -/
namespace Go.Proofs.YtgngehfgcogceaaGreatDoor
open Go.RowKit

/-- A range and a code are handed back. -/
def RTerm (V : List Pl.Ivl × Int) (w : World) (e : Ending) (w' : World) : Prop := ∃ a c, e = .returned (.tuple #[.agg #[.slice a V.1.length c], .int .i64 V.2]) ∧ RIn w' V.1 a c ∧ Below w.heap.size w w'
theorem RTerm.bad {k : Int} {V : List Pl.Ivl × Int} {w w' : World} (h : V = ([], k)) (hb : Below w.heap.size w w') : RTerm V w (.returned (.tuple #[.agg #[.slice none 0 0], .int .i64 k])) w' := by
  subst h
  exact ⟨none, 0, rfl, RIn.nil _, hb⟩
theorem RTerm.ok {r : List Pl.Ivl} {V : List Pl.Ivl × Int} {w w' : World} {a : Option Addr} {c : Nat} (h : V = (r, 0)) (hr : RIn w' r a c) (hb : Below w.heap.size w w') : RTerm V w (.returned (.tuple #[.agg #[.slice a r.length c], .int .i64 0])) w' := by
  subst h
  exact ⟨a, c, rfl, hr, hb⟩
namespace Pl
theorem par_cases (T : ByteArray) : (refParse (bsl T) = none ∧ (parF T).1 ≠ 0 ∧ parV T = Ver.zero) ∨ ∃ v, refParse (bsl T) = some v ∧ v.Ok ∧ parV T = v ∧ parF T = (0, 0) := by
  cases h : refParse (bsl T) with
  | none =>
    refine .inl ⟨rfl, ?_, ?_⟩
    · unfold parF
      split
      · decide
      · rw [parse_same, h]; decide
    · unfold parV
      split
      · rfl
      · rw [parse_same, h]; rfl
  | some v =>
    have hv := ref_iff.1 h
    have hl : T.size ≤ 80 := by have := verT_len hv.1; rw [hv.2] at this; exact this
    have := par_some hl (v := v) (by rw [parse_same, h])
    exact .inr ⟨v, rfl, hv.1, this⟩
theorem try_hit {s t op : List UInt8} {r : List (List UInt8)} {V : List Ivl × Int} (h : s = op ++ t) (hV : tryOps s (op :: r) = V) : (refParse t = none → V = ([], 1)) ∧ ∀ v, refParse t = some v → V = opR op v := by
  subst h
  rw [tryOps, if_pos (List.isPrefixOf_iff_prefix.2 ⟨t, rfl⟩), List.drop_left] at hV
  subst hV
  exact ⟨fun e => by rw [e], fun v e => by rw [e]⟩
theorem try_miss {s op : List UInt8} {r : List (List UInt8)} {V : List Ivl × Int} (h : ¬ op <+: s) (hV : tryOps s (op :: r) = V) : tryOps s r = V := by
  rwa [tryOps, if_neg (fun e => h (List.isPrefixOf_iff_prefix.1 e))] at hV
theorem bsl_at (l : List UInt8) : bsl (mkS l) = l := bsl_mkS l
end Pl
abbrev opsV : Value := .agg #[.string ⟨#[62, 61]⟩, .string ⟨#[60, 61]⟩, .string ⟨#[62]⟩, .string ⟨#[60]⟩, .string ⟨#[61]⟩, .string ⟨#[94]⟩, .string ⟨#[126]⟩]
theorem idxOp0 (w : World) : (Instr.index 112 opsV (.int .i64 0)).run Tryz.prog w = .ok (.string ⟨#[62, 61]⟩) w := by kernel_rfl
theorem idxOp1 (w : World) : (Instr.index 112 opsV (.int .i64 1)).run Tryz.prog w = .ok (.string ⟨#[60, 61]⟩) w := by kernel_rfl
theorem idxOp2 (w : World) : (Instr.index 112 opsV (.int .i64 2)).run Tryz.prog w = .ok (.string ⟨#[62]⟩) w := by kernel_rfl
theorem idxOp3 (w : World) : (Instr.index 112 opsV (.int .i64 3)).run Tryz.prog w = .ok (.string ⟨#[60]⟩) w := by kernel_rfl
theorem idxOp4 (w : World) : (Instr.index 112 opsV (.int .i64 4)).run Tryz.prog w = .ok (.string ⟨#[61]⟩) w := by kernel_rfl
end Go.Proofs.YtgngehfgcogceaaGreatDoor

end
section
/- Contract: a range is read, by the program. -/
namespace Go.Proofs.YtgngehfgcogceaaGreatDoor
open Go.RowKit

theorem split_BS (s sp : ByteArray) : Lib.splitB sp 0 (Lib.countB s sp) s = (Lib.split (Pl.bsl s) (Pl.bsl sp)).map Pl.mkS := by
  apply Pl.map_bsl_inj
  rw [List.map_map]
  have h := Lib.splitB_data sp 0 (Lib.countB s sp) s
  have e : (Lib.split (Pl.bsl s) (Pl.bsl sp)).map (Pl.bsl ∘ Pl.mkS) = Lib.split (Pl.bsl s) (Pl.bsl sp) := by
    conv => rhs; rw [← List.map_id (Lib.split (Pl.bsl s) (Pl.bsl sp))]
    exact List.map_congr_left fun l _ => Pl.bsl_mkS l
  rw [e]
  exact h
theorem Split_sep (s sp : ByteArray) (w : World) (hs : s.size ≤ 1048576) (h1 : 1 ≤ sp.size) (E : Env w) :
    Calls Tryz.prog 28 #[.string s, .string sp] w fun e w' => e = .returned (.slice (some ⟨w.heap.size, 0, none⟩) (Lib.split (Pl.bsl s) (Pl.bsl sp)).length (Lib.split (Pl.bsl s) (Pl.bsl sp)).length) ∧
      w' = w.alloc (.cells (strVals ((Lib.split (Pl.bsl s) (Pl.bsl sp)).map Pl.mkS)).toArray 9) := by
  obtain ⟨m, hm⟩ := E.len
  have h := Tryz.strings_Split s sp m w (by omega) hm h1
  have hl : Lib.countB s sp + 1 = (Lib.split (Pl.bsl s) (Pl.bsl sp)).length := by
    have := Lib.splitB_all sp h1 0 _ s rfl
    rw [split_BS, List.length_map] at this
    exact this.symm
  rw [hl, split_BS] at h
  exact h
/-- The pieces lie in a new block. -/
theorem Split_bk (s sp : ByteArray) (L : List (List UInt8)) (hL : Lib.split (Pl.bsl s) (Pl.bsl sp) = L) (w : World) (hs : s.size ≤ 1048576) (h1 : 1 ≤ sp.size) (E : Env w) :
    Calls Tryz.prog 28 #[.string s, .string sp] w fun e w' => e = .returned (.slice (some ⟨w.heap.size, 0, none⟩) L.length L.length) ∧ Bk w' w.heap.size (strVals (L.map Pl.mkS)) ∧ Below w.heap.size w w' := by
  subst hL
  refine (Split_sep s sp w hs h1 E).mono ?_
  rintro e w' ⟨rfl, rfl⟩
  exact ⟨rfl, Bk.new _ _ rfl, (Below.refl _ _).alloc (Nat.le_refl _) _⟩
theorem Bk.str {w : World} {g : Nat} {L : List (List UInt8)} (h : Bk w g (strVals (L.map Pl.mkS))) {k : Nat} (hk : k < L.length) : w.cell? ⟨g, k, none⟩ = some (.string (Pl.mkS L[k])) := by
  rw [h.a k]
  simp [strVals, hk]
namespace Pl
theorem splitK_size2 (sp : List UInt8) : ∀ (k : Nat) (s : List UInt8), ∀ x ∈ Lib.splitK sp 0 k s, x.length ≤ s.length
  | 0, s, x, h => by rw [Lib.splitK, List.mem_singleton] at h; rw [h]; exact Nat.le_refl _
  | k + 1, s, x, h => by
    rw [Lib.splitK] at h
    split at h
    · rw [List.mem_singleton] at h; rw [h]; exact Nat.le_refl _
    · rcases List.mem_cons.1 h with rfl | h
      · rw [List.length_take]; omega
      · have := splitK_size2 sp k _ x h
        rw [List.length_drop] at this
        omega
theorem split_size2 (s sp : List UInt8) : ∀ x ∈ Lib.split s sp, x.length ≤ s.length := splitK_size2 sp _ s
theorem count_le (s sp : List UInt8) (hsp : sp ≠ []) : Lib.count s sp ≤ s.length := by
  induction h : s.length using Nat.strongRecOn generalizing s with
  | ind n ih =>
    subst h
    by_cases hi : Lib.index s sp = -1
    · rw [Lib.count_miss hi]; omega
    · have hge := Lib.index_ge s sp
      obtain ⟨i, e⟩ : ∃ i : Nat, Lib.index s sp = i := ⟨(Lib.index s sp).toNat, by omega⟩
      have hd := Lib.drop_shorter hsp (s := s) (show ¬ (Lib.index s sp == -1) = true by rw [e, beq_iff_eq]; omega)
      rw [Lib.count_hit hsp e]
      rw [e] at hd
      have hd : (s.drop (i + sp.length)).length < s.length := hd
      have := ih _ hd (s.drop (i + sp.length)) rfl
      omega
theorem splitK_len2 (sp : List UInt8) : ∀ (k : Nat) (s : List UInt8), (Lib.splitK sp 0 k s).length ≤ k + 1
  | 0, s => by simp [Lib.splitK]
  | k + 1, s => by
    rw [Lib.splitK]
    split
    · simp
    · have := splitK_len2 sp k (s.drop ((Lib.index s sp).toNat + sp.length))
      simp only [List.length_cons]; omega
theorem split_len2 (s sp : List UInt8) (h : sp ≠ []) : (Lib.split s sp).length ≤ s.length + 1 := by
  have h1 := splitK_len2 sp (Lib.count s sp) s
  have h2 := count_le s sp h
  unfold Lib.split
  omega
theorem commonR_len (a b : List Ivl) : (commonR a b).length ≤ a.length * b.length := by
  unfold commonR
  induction a with
  | nil => simp
  | cons x a ih =>
    rw [List.flatMap_cons, List.length_append, List.length_cons, Nat.succ_mul]
    have := List.length_filterMap_le (fun y => if comOk x y = true then some (comI x y) else none) b
    omega
theorem oneR_len (a b : Ver) : (oneR a b).length ≤ 1 := by unfold oneR; split <;> simp
theorem opR_len (op : List UInt8) (v : Ver) : (opR op v).1.length ≤ 1 := by
  unfold opR
  repeat' split
  all_goals first | exact oneR_len _ _ | simp [upR]
theorem termR_len (t : List UInt8) : (termR t).1.length ≤ 1 := by
  unfold termR
  split
  · simp [upR]
  · split
    · simp
    · split
      · exact opR_len _ _
      · simp
theorem com_one {a : List Ivl} {t : List UInt8} (h : a.length ≤ 1) : (commonR a (termR t).1).length ≤ 1 := by
  have h1 := commonR_len a (termR t).1
  have h2 := termR_len t
  have := Nat.mul_le_mul h h2
  omega
theorem altF_len : ∀ {ts : List (List UInt8)} {acc : List Ivl}, acc.length ≤ 1 → (altF acc ts).1.length ≤ 1
  | [], _, h => h
  | t :: ts, acc, h => by
    rw [altF]
    split
    · simp
    · exact altF_len (com_one h)
theorem altF_step {acc : List Ivl} {L : List (List UInt8)} {k : Nat} {A : List Ivl × Int} (hk : k < L.length) (h : altF acc (L.drop k) = A) : ((termR L[k]).2 ≠ 0 → A = ([], (termR L[k]).2)) ∧ ((termR L[k]).2 = 0 → altF (commonR acc (termR L[k]).1) (L.drop (k + 1)) = A) := by
  rw [List.drop_eq_getElem_cons hk, altF] at h
  refine ⟨fun e => ?_, fun e => ?_⟩
  · rw [if_pos e] at h; exact h.symm
  · rwa [if_neg (fun h => h e)] at h
theorem altF_end {acc : List Ivl} {L : List (List UInt8)} {k : Nat} {A : List Ivl × Int} (hk : L.length ≤ k) (h : altF acc (L.drop k) = A) : A = (acc, 0) := by
  rw [List.drop_of_length_le hk] at h; exact h.symm
theorem altsF_step {out : List Ivl} {L : List (List UInt8)} {i : Nat} {T : List Ivl × (Int × Int)} (hi : i < L.length) (h : altsF out i (L.drop i) = T) : ((altR L[i]).2 ≠ 0 → T = ([], (altR L[i]).2, (i : Int))) ∧ ((altR L[i]).2 = 0 → altsF (unionR out (altR L[i]).1) (i + 1) (L.drop (i + 1)) = T) := by
  rw [List.drop_eq_getElem_cons hi, altsF] at h
  refine ⟨fun e => ?_, fun e => ?_⟩
  · rw [if_pos e] at h; exact h.symm
  · rwa [if_neg (fun h => h e)] at h
theorem altsF_end {out : List Ivl} {L : List (List UInt8)} {i : Nat} {T : List Ivl × (Int × Int)} (hi : L.length ≤ i) (h : altsF out i (L.drop i) = T) : T = (out, 0, 0) := by
  rw [List.drop_of_length_le hi] at h; exact h.symm
/-- The range that a text denotes, and its fault. -/
def prsV (s : ByteArray) : List Ivl := if 4096 < s.size then [] else (rngP (bsl s)).1
def prsF (s : ByteArray) : Int × Int := if 4096 < s.size then (2, -1) else (rngP (bsl s)).2
theorem prs_bad {s : ByteArray} {c : Int} {i : Nat} (h : s.size ≤ 4096) (hc : c ≠ 0) (hT : altsF [] 0 (Lib.split (bsl s) barS) = ([], c, (i : Int))) : prsV s = [] ∧ prsF s = (c, (i : Int)) := by
  have h4 : ¬ 4096 < s.size := by omega
  have e : rngP (bsl s) = ([], c, (i : Int)) := by unfold rngP; rw [hT]; exact if_pos hc
  unfold prsV prsF
  rw [if_neg h4, if_neg h4, e]
  exact ⟨rfl, rfl⟩
theorem prs_ok {s : ByteArray} {r : List Ivl} (h : s.size ≤ 4096) (hT : altsF [] 0 (Lib.split (bsl s) barS) = (r, 0, 0)) : prsV s = limR r ∧ prsF s = limF r := by
  have h4 : ¬ 4096 < s.size := by omega
  have e : rngP (bsl s) = if 12 < r.length then ([], 10, -3) else (r, 0, 0) := by unfold rngP; rw [hT]; exact if_neg (by simp)
  unfold prsV prsF limR limF
  rw [if_neg h4, if_neg h4, e]
  by_cases h12 : 12 < r.length
  · rw [if_pos h12, if_pos h12, if_pos h12]; exact ⟨rfl, rfl⟩
  · rw [if_neg h12, if_neg h12, if_neg h12]; exact ⟨rfl, rfl⟩
end Pl
def ParInv (w : World) (SP : Nat) (L : List (List UInt8)) (T : List Pl.Ivl × (Int × Int)) (i : Nat) (wr : World) : Prop := ∃ o c out, Bk wr (w.heap.size + 1 + 1) [.slice o out.length c] ∧ RIn wr out o c ∧ Bk wr SP (strVals (L.map Pl.mkS)) ∧ Bk wr w.heap.size [.slice none 0 0] ∧ Bk wr (w.heap.size + 1) [.int .i64 0, .int .i64 0] ∧ Below w.heap.size w wr ∧ Pl.altsF out i (L.drop i) = T ∧ Pl.Can out ∧ out.length ≤ i
def AltInv (w : World) (SP S2 Q : Nat) (L L2 : List (List UInt8)) (out : List Pl.Ivl) (o : Option Addr) (c : Nat) (A : List Pl.Ivl × Int) (k : Nat) (wr : World) : Prop := ∃ o2 c2 acc, Bk wr Q [.slice o2 acc.length c2] ∧ RIn wr acc o2 c2 ∧ Bk wr S2 (strVals (L2.map Pl.mkS)) ∧ Bk wr (w.heap.size + 1 + 1) [.slice o out.length c] ∧ RIn wr out o c ∧ Bk wr SP (strVals (L.map Pl.mkS)) ∧ Bk wr w.heap.size [.slice none 0 0] ∧ Bk wr (w.heap.size + 1) [.int .i64 0, .int .i64 0] ∧ Below w.heap.size w wr ∧ Pl.altF acc (L2.drop k) = A ∧ Pl.Can acc ∧ acc.length ≤ 1
/-- What the terms of a text answer. -/
def TermsOf (s : ByteArray) : Prop := ∀ al ∈ Lib.split (Pl.bsl s) Pl.barS, ∀ tt ∈ Lib.split al [32], ∀ W, Env W → Calls Tryz.prog 31 #[.string (Pl.mkS tt)] W (RTerm (Pl.termR tt) W)
set_option maxRecDepth 100000 in
set_option maxHeartbeats 16000000 in
theorem rngParse_of (s : ByteArray) (w : World) (h : s.size ≤ 4096) (E : Env w) (TM : TermsOf s) : Calls Tryz.prog 11 #[.string s] w (RRngF (Pl.prsV s) (Pl.prsF s) w) := by
  obtain ⟨L, hL⟩ : ∃ L, Lib.split (Pl.bsl s) Pl.barS = L := ⟨_, rfl⟩
  unfold TermsOf at TM
  rw [hL] at TM
  have TM0 := Lib.hid TM
  clear TM
  have hLn : L.length ≤ 4097 := by
    have := Pl.split_len2 (Pl.bsl s) Pl.barS (by decide)
    rw [hL] at this
    have h2 : (Pl.bsl s).length = s.size := rfl
    omega
  have hLs : Hid (∀ x ∈ L, x.length ≤ 4096) := Lib.hid (fun x hx => by
    have := Pl.split_size2 (Pl.bsl s) Pl.barS x (by rw [hL]; exact hx)
    have h2 : (Pl.bsl s).length = s.size := rfl
    omega)
  obtain ⟨T, hT⟩ : ∃ T, Pl.altsF [] 0 L = T := ⟨_, rfl⟩
  have HB := Lib.hid (fun (c : Int) (i : Nat) (hc : c ≠ 0) (e : T = ([], c, (i : Int))) => Pl.prs_bad (s := s) h hc (by rw [hL, hT]; exact e))
  have HO := Lib.hid (fun (r : List Pl.Ivl) (e : T = (r, 0, 0)) => Pl.prs_ok (s := s) h (by rw [hL, hT]; exact e))
  have HT := Lib.hid hT
  have HE := Lib.hid E
  have CS := Lib.hid (fun (W : World) (E : Env W) => Split_bk s ⟨#[32, 124, 124, 32]⟩ L hL W (by omega) (by decide) E)
  have t1 : decide ((4096 : Int) < (s.size : Int)) = false := by simp; omega
  clear hL hT E h
  go_enter Tryz.func11, Tryz.ntmps11
  have B0 : Below w.heap.size w w := Below.refl _ _
  go_wp2_with fail
  refine (CS.out _ (HE.out.below (by go_grown) (Nat.le_refl _))).mono ?_
  rintro e w1 ⟨rfl, SB, hb⟩
  simp only [World.size_alloc] at SB
  have B1 : Below w.heap.size w w1 := bcall (by go_grown) hb (by go_size)
  have q1 : w.heap.size + 3 ≤ w1.heap.size := by have z := hb.size; (try simp only [World.size_alloc] at z); omega
  have R := ((((Bk.new (r := w.heap.size) (cs := [.slice none 0 0]) _ 44 (by simp)).alloc _).alloc _)).below hb (by go_size)
  have F := (((Bk.new (r := w.heap.size + 1) (cs := [.int .i64 0, .int .i64 0]) _ 30 (by simp)).alloc _)).below hb (by go_size)
  have O := ((Bk.new (r := w.heap.size + 1 + 1) (cs := [.slice none 0 0]) _ 44 (by simp))).below hb (by go_size)
  clear hb
  have s1 : w.heap.size ≤ w1.heap.size := B1.size
  obtain ⟨R_c, R_f, R_l⟩ := id R
  obtain ⟨F_c, F_f, F_l⟩ := id F
  obtain ⟨O_c, O_f, O_l⟩ := id O
  go_wp2_with fail
  go_loopw [20] (fun x wr => ∃ i : Nat, i ≤ L.length ∧ x = .int .i64 i ∧ ParInv w (w.heap.size + 3) L T i wr) (fun x _ => L.length - (intOf x).toNat)
  case atStart => exact ⟨0, Nat.zero_le _, rfl, none, 0, [], O, RIn.nil _, SB, R, F, B1, HT.out, Pl.Can.nil, Nat.le_refl _⟩
  case round =>
    obtain ⟨i, hi, rfl, hinv⟩ := hrel
    clear R F O SB B0 B1
    obtain ⟨o, c, out, O, AO, SB, R, F, B1, EQ, CAN, hol⟩ := hinv
    replace AO := Lib.hid AO
    replace EQ := Lib.hid EQ
    replace CAN := Lib.hid CAN
    have s3 := B1.size
    have qs : w.heap.size + 3 < wr.heap.size := SB.lt
    by_cases hlt2 : i < L.length
    · have cp := SB.str hlt2
      have ST := Lib.hid (Pl.altsF_step hlt2 EQ.out)
      have hps := hLs.out _ (List.getElem_mem hlt2)
      have TM1 := Lib.hid (TM0.out _ (List.getElem_mem hlt2))
      generalize L[i] = p at *
      obtain ⟨L2, hL2⟩ : ∃ l, Lib.split p [32] = l := ⟨_, rfl⟩
      have hLn2 : L2.length ≤ 4097 := by
        have := Pl.split_len2 p [32] (by decide)
        rw [hL2] at this
        omega
      have hLs2 : Hid (∀ x ∈ L2, x.length ≤ 4096) := Lib.hid (fun x hx => by
        have := Pl.split_size2 p [32] x (by rw [hL2]; exact hx)
        omega)
      obtain ⟨A, hA⟩ : ∃ A, Pl.altR p = A := ⟨_, rfl⟩
      have HA := Lib.hid (show Pl.altF (Pl.upR Pl.lowV) L2 = A by rw [← hA, ← hL2]; rfl)
      rw [hA] at ST
      have CS2 := Lib.hid (fun (W : World) (E : Env W) => Split_bk (Pl.mkS p) ⟨#[32]⟩ L2 (by rw [Pl.bsl_mkS]; exact hL2) W (by show p.length ≤ 1048576; omega) (by decide) E)
      have CAN2 := Lib.hid (by rw [← hA]; exact Pl.altR_can p : Pl.Can A.1)
      have hAl : A.1.length ≤ 1 := by rw [← hA]; exact Pl.altF_len (by simp [Pl.upR])
      have TM2 : Hid (∀ tt ∈ L2, ∀ W, Env W → Calls Tryz.prog 31 #[.string (Pl.mkS tt)] W (RTerm (Pl.termR tt) W)) := Lib.hid (by rw [← hL2]; exact TM1.out)
      clear hL2 hA hps TM1
      obtain ⟨O_c, O_f, O_l⟩ := id O
      obtain ⟨SB_c, SB_f, SB_l⟩ := id SB
      obtain ⟨R_c, R_f, R_l⟩ := id R
      obtain ⟨F_c, F_f, F_l⟩ := id F
      go_wp2_with fail
      refine (lowest_any _).mono ?_
      rintro e w4 ⟨la, lc, rfl, VL, hb⟩
      replace VL := Lib.hid VL
      have B4 : Below w.heap.size w w4 := bcall (by go_grown) hb (by go_size)
      have q4 : wr.heap.size + 0 ≤ w4.heap.size := by have z := hb.size; (try simp only [World.size_alloc, World.size_setCell, World.size_drew] at z); omega
      replace AO := Lib.hid (AO.out.below hb (Nat.le_refl _))
      replace O := (O).below hb (by go_size)
      replace SB := (SB).below hb (by go_size)
      replace R := (R).below hb (by go_size)
      replace F := (F).below hb (by go_size)
      clear hb
      have s4 : w.heap.size ≤ w4.heap.size := B4.size
      clear O_c O_f O_l SB_c SB_f SB_l R_c R_f R_l F_c F_f F_l
      obtain ⟨O_c, O_f, O_l⟩ := id O
      obtain ⟨SB_c, SB_f, SB_l⟩ := id SB
      obtain ⟨R_c, R_f, R_l⟩ := id R
      obtain ⟨F_c, F_f, F_l⟩ := id F
      clear cp
      go_wp2_with fail
      refine (from_any Pl.lowV la lc _ VL.out Pl.lowV_ok).mono ?_
      rintro e w5 ⟨oq, kq, rfl, AQ, hb⟩
      replace AQ := Lib.hid AQ
      have B5 : Below w.heap.size w w5 := bcall (by go_grown) hb (by go_size)
      have q5 : w4.heap.size + 0 ≤ w5.heap.size := by have z := hb.size; (try simp only [World.size_alloc, World.size_setCell, World.size_drew] at z); omega
      replace AO := Lib.hid (AO.out.below hb (Nat.le_refl _))
      replace VL := Lib.hid (VL.out.below hb (Nat.le_refl _))
      replace O := (O).below hb (by go_size)
      replace SB := (SB).below hb (by go_size)
      replace R := (R).below hb (by go_size)
      replace F := (F).below hb (by go_size)
      clear hb
      have s5 : w.heap.size ≤ w5.heap.size := B5.size
      clear O_c O_f O_l SB_c SB_f SB_l R_c R_f R_l F_c F_f F_l
      obtain ⟨O_c, O_f, O_l⟩ := id O
      obtain ⟨SB_c, SB_f, SB_l⟩ := id SB
      obtain ⟨R_c, R_f, R_l⟩ := id R
      obtain ⟨F_c, F_f, F_l⟩ := id F
      go_wp2_with fail
      refine (CS2.out _ (HE.out.below (by go_grown) (Nat.le_refl _))).mono ?_
      rintro e w6 ⟨rfl, S2, hb⟩
      simp only [World.size_alloc] at S2
      have B6 : Below w.heap.size w w6 := bcall (by go_grown) hb (by go_size)
      have q6 : w5.heap.size + 1 ≤ w6.heap.size := by have z := hb.size; (try simp only [World.size_alloc] at z); omega
      replace AO := Lib.hid ((AO.out.below (Below.refl _ _ |>.alloc (Nat.le_refl _) _) (Nat.le_refl _)).below hb (Nat.le_refl _))
      replace AQ := Lib.hid ((AQ.out.below (Below.refl _ _ |>.alloc (Nat.le_refl _) _) (Nat.le_refl _)).below hb (Nat.le_refl _))
      replace O := ((O.alloc _)).below hb (by go_size)
      replace SB := ((SB.alloc _)).below hb (by go_size)
      replace R := ((R.alloc _)).below hb (by go_size)
      replace F := ((F.alloc _)).below hb (by go_size)
      have Q := ((Bk.new (r := w5.heap.size) (cs := [.slice oq (Pl.upR Pl.lowV).length kq]) _ 44 (by simp))).below hb (by go_size)
      clear hb
      have s6 : w.heap.size ≤ w6.heap.size := B6.size
      clear O_c O_f O_l SB_c SB_f SB_l R_c R_f R_l F_c F_f F_l
      obtain ⟨O_c, O_f, O_l⟩ := id O
      obtain ⟨SB_c, SB_f, SB_l⟩ := id SB
      obtain ⟨R_c, R_f, R_l⟩ := id R
      obtain ⟨F_c, F_f, F_l⟩ := id F
      obtain ⟨Q_c, Q_f, Q_l⟩ := id Q
      go_wp2_with fail
      go_loopw [30] (fun x wv => ∃ k : Nat, k ≤ L2.length ∧ x = .int .i64 k ∧ AltInv w (w.heap.size + 3) (w5.heap.size + 1) w5.heap.size L L2 out o c A k wv) (fun x _ => L2.length - (intOf x).toNat)
      case atStart => exact ⟨0, Nat.zero_le _, rfl, oq, kq, Pl.upR Pl.lowV, Q, AQ.out, S2, O, AO.out, SB, R, F, B6, HA.out, Pl.upR_can Pl.lowV_ok, by simp [Pl.upR]⟩
      case round =>
        obtain ⟨k, hk, rfl, hinv⟩ := hrel
        clear O SB R F Q S2 AQ AO B4 B5 B6
        obtain ⟨o2, c2, acc, Q, AQ, S2, O, AO, SB, R, F, B7, EQ2, CAQ, hal⟩ := hinv
        replace AO := Lib.hid AO
        replace AQ := Lib.hid AQ
        replace EQ2 := Lib.hid EQ2
        have s7 := B7.size
        by_cases hlt3 : k < L2.length
        · have cp := S2.str hlt3
          have ST2 := Lib.hid (Pl.altF_step hlt3 EQ2.out)
          have hps := hLs2.out _ (List.getElem_mem hlt3)
          have CT := Lib.hid (TM2.out _ (List.getElem_mem hlt3))
          generalize L2[k] = tt at *
          obtain ⟨V, hV⟩ : ∃ V, Pl.termR tt = V := ⟨_, rfl⟩
          rw [hV] at CT
          have CANV := Lib.hid (by rw [← hV]; exact Pl.termR_can tt : Pl.Can V.1)
          have hvl : V.1.length ≤ 1 := by rw [← hV]; exact Pl.termR_len tt
          rw [hV] at ST2
          obtain ⟨v1, c1⟩ := V
          delta RTerm at CT
          dsimp only at CT ST2 CANV hvl
          have CM := Lib.hid (Pl.commonR_can CAQ CANV.out).1
          have hcl : (Pl.commonR acc v1).length ≤ 1 := by
            have z1 := Pl.commonR_len acc v1
            have z2 := Nat.mul_le_mul hal hvl
            omega
          replace CAQ := Lib.hid CAQ
          have qS := S2.lt
          clear hV hps
          by_cases hc : c1 = 0
          · subst hc
            have EQ3 := Lib.hid (ST2.out.2 rfl)
            clear ST2
            obtain ⟨Q_c, Q_f, Q_l⟩ := id Q
            obtain ⟨S2_c, S2_f, S2_l⟩ := id S2
            obtain ⟨O_c, O_f, O_l⟩ := id O
            obtain ⟨SB_c, SB_f, SB_l⟩ := id SB
            obtain ⟨R_c, R_f, R_l⟩ := id R
            obtain ⟨F_c, F_f, F_l⟩ := id F
            go_wp2_with fail
            refine (CT.out _ (HE.out.below (by go_grown) (Nat.le_refl _))).mono ?_
            rintro e w8 ⟨tq, tk, rfl, TV, hb⟩
            replace TV := Lib.hid TV
            have B8 : Below w.heap.size w w8 := bcall (by go_grown) hb (by go_size)
            have q8 : wr.heap.size + 0 ≤ w8.heap.size := by have z := hb.size; (try simp only [World.size_alloc, World.size_setCell, World.size_drew] at z); omega
            replace AO := Lib.hid (AO.out.below hb (Nat.le_refl _))
            replace AQ := Lib.hid (AQ.out.below hb (Nat.le_refl _))
            replace Q := (Q).below hb (by go_size)
            replace S2 := (S2).below hb (by go_size)
            replace O := (O).below hb (by go_size)
            replace SB := (SB).below hb (by go_size)
            replace R := (R).below hb (by go_size)
            replace F := (F).below hb (by go_size)
            clear hb
            have s8 : w.heap.size ≤ w8.heap.size := B8.size
            clear Q_c Q_f Q_l S2_c S2_f S2_l O_c O_f O_l SB_c SB_f SB_l R_c R_f R_l F_c F_f F_l
            obtain ⟨Q_c, Q_f, Q_l⟩ := id Q
            obtain ⟨S2_c, S2_f, S2_l⟩ := id S2
            obtain ⟨O_c, O_f, O_l⟩ := id O
            obtain ⟨SB_c, SB_f, SB_l⟩ := id SB
            obtain ⟨R_c, R_f, R_l⟩ := id R
            obtain ⟨F_c, F_f, F_l⟩ := id F
            clear cp
            go_wp2_with fail
            refine (meet_any acc v1 o2 tq c2 tk _ (AQ.out.below (by go_grown) (Nat.le_refl _)) (TV.out.below (by go_grown) (Nat.le_refl _)) CAQ.out CANV.out (by omega) (by omega)).mono ?_
            rintro e w9 ⟨o3, k3, rfl, A3, hb⟩
            replace A3 := Lib.hid A3
            have B9 : Below w.heap.size w w9 := bcall (by go_grown) hb (by go_size)
            have q9 : w8.heap.size + 1 ≤ w9.heap.size := by have z := hb.size; (try simp only [World.size_alloc] at z); omega
            replace AO := Lib.hid ((AO.out.below (Below.refl _ _ |>.alloc (Nat.le_refl _) _) (Nat.le_refl _)).below hb (Nat.le_refl _))
            replace AQ := Lib.hid ((AQ.out.below (Below.refl _ _ |>.alloc (Nat.le_refl _) _) (Nat.le_refl _)).below hb (Nat.le_refl _))
            replace TV := Lib.hid ((TV.out.below (Below.refl _ _ |>.alloc (Nat.le_refl _) _) (Nat.le_refl _)).below hb (Nat.le_refl _))
            replace Q := ((Q.alloc _)).below hb (by go_size)
            replace S2 := ((S2.alloc _)).below hb (by go_size)
            replace O := ((O.alloc _)).below hb (by go_size)
            replace SB := ((SB.alloc _)).below hb (by go_size)
            replace R := ((R.alloc _)).below hb (by go_size)
            replace F := ((F.alloc _)).below hb (by go_size)
            have X := ((Bk.new (r := w8.heap.size) (cs := [.slice tq v1.length tk]) _ 44 (by simp))).below hb (by go_size)
            clear hb
            have s9 : w.heap.size ≤ w9.heap.size := B9.size
            clear Q_c Q_f Q_l S2_c S2_f S2_l O_c O_f O_l SB_c SB_f SB_l R_c R_f R_l F_c F_f F_l
            obtain ⟨Q_c, Q_f, Q_l⟩ := id Q
            obtain ⟨S2_c, S2_f, S2_l⟩ := id S2
            obtain ⟨O_c, O_f, O_l⟩ := id O
            obtain ⟨SB_c, SB_f, SB_l⟩ := id SB
            obtain ⟨R_c, R_f, R_l⟩ := id R
            obtain ⟨F_c, F_f, F_l⟩ := id F
            obtain ⟨X_c, X_f, X_l⟩ := id X
            go_wp2_with fail
            go_roundw
            case rel => exact ⟨k + 1, hlt3, by go_num, o3, k3, Pl.commonR acc v1, (Q.set (k := 0) (by simp) (.slice o3 (Pl.commonR acc v1).length k3)), (A3.out.setBk Q (by simp) (j := 0) rfl (fun _ h => by cases h) (.slice o3 (Pl.commonR acc v1).length k3)), (S2.far (a := ⟨w5.heap.size, 0, none⟩) (by dsimp only; omega) (.slice o3 (Pl.commonR acc v1).length k3)), (O.far (a := ⟨w5.heap.size, 0, none⟩) (by dsimp only; omega) (.slice o3 (Pl.commonR acc v1).length k3)), (AO.out.setBk Q (by simp) (j := 0) rfl (fun _ h => by cases h) (.slice o3 (Pl.commonR acc v1).length k3)), (SB.far (a := ⟨w5.heap.size, 0, none⟩) (by dsimp only; omega) (.slice o3 (Pl.commonR acc v1).length k3)), (R.far (a := ⟨w5.heap.size, 0, none⟩) (by dsimp only; omega) (.slice o3 (Pl.commonR acc v1).length k3)), (F.far (a := ⟨w5.heap.size, 0, none⟩) (by dsimp only; omega) (.slice o3 (Pl.commonR acc v1).length k3)), by go_grown, EQ3.out, CM.out, hcl⟩
            case measure => simp [intOf]; omega
          · have EA := ST2.out.1 hc
            have ET := ST.out.1 (by rw [EA]; exact hc)
            rw [EA] at ET
            have EB := Lib.hid (HB.out c1 i hc ET)
            have u1 := bneT hc
            clear ST2 ST EA ET
            obtain ⟨Q_c, Q_f, Q_l⟩ := id Q
            obtain ⟨S2_c, S2_f, S2_l⟩ := id S2
            obtain ⟨O_c, O_f, O_l⟩ := id O
            obtain ⟨SB_c, SB_f, SB_l⟩ := id SB
            obtain ⟨R_c, R_f, R_l⟩ := id R
            obtain ⟨F_c, F_f, F_l⟩ := id F
            go_wp2_with fail
            refine (CT.out _ (HE.out.below (by go_grown) (Nat.le_refl _))).mono ?_
            rintro e w8 ⟨tq, tk, rfl, TV, hb⟩
            replace TV := Lib.hid TV
            have B8 : Below w.heap.size w w8 := bcall (by go_grown) hb (by go_size)
            have q8 : wr.heap.size + 0 ≤ w8.heap.size := by have z := hb.size; (try simp only [World.size_alloc, World.size_setCell, World.size_drew] at z); omega
            replace AO := Lib.hid (AO.out.below hb (Nat.le_refl _))
            replace AQ := Lib.hid (AQ.out.below hb (Nat.le_refl _))
            replace Q := (Q).below hb (by go_size)
            replace S2 := (S2).below hb (by go_size)
            replace O := (O).below hb (by go_size)
            replace SB := (SB).below hb (by go_size)
            replace R := (R).below hb (by go_size)
            replace F := (F).below hb (by go_size)
            clear hb
            have s8 : w.heap.size ≤ w8.heap.size := B8.size
            clear Q_c Q_f Q_l S2_c S2_f S2_l O_c O_f O_l SB_c SB_f SB_l R_c R_f R_l F_c F_f F_l
            obtain ⟨Q_c, Q_f, Q_l⟩ := id Q
            obtain ⟨S2_c, S2_f, S2_l⟩ := id S2
            obtain ⟨O_c, O_f, O_l⟩ := id O
            obtain ⟨SB_c, SB_f, SB_l⟩ := id SB
            obtain ⟨R_c, R_f, R_l⟩ := id R
            obtain ⟨F_c, F_f, F_l⟩ := id F
            clear cp
            go_wp2_with fail
            have RN := ((((R.set (k := 0) (by simp) (.slice none 0 0)).far (a := ⟨w.heap.size + 1, 0, none⟩) (by dsimp only; omega) (.int .i64 c1)).far (a := ⟨w.heap.size + 1, 1, none⟩) (by dsimp only; omega) (.int .i64 (i : Int))).alloc (.cells #[.slice tq v1.length tk] 44))
            have FN := ((((F.far (a := ⟨w.heap.size, 0, none⟩) (by dsimp only; omega) (.slice none 0 0)).set (k := 0) (by simp) (.int .i64 c1)).set (k := 1) (by simp) (.int .i64 (i : Int))).alloc (.cells #[.slice tq v1.length tk] 44))
            obtain ⟨RN_c, RN_f, RN_l⟩ := RN
            obtain ⟨FN_c, FN_f, FN_l⟩ := FN
            refine bodyPost_ret (v := .tuple #[.agg #[.slice none 0 0], .agg #[.int .i64 c1, .int .i64 (i : Int)]]) (by simp [results, Tryz.results11, go_sem, RN_c, FN_c]) rfl ?_
            rw [EB.out.1, EB.out.2]
            exact ⟨none, 0, rfl, RIn.nil _, by go_grown⟩
        · have EA := Pl.altF_end (by omega) EQ2.out
          subst EA
          have EQ3 := Lib.hid (ST.out.2 rfl)
          have CM := Lib.hid (Pl.unionR_can CAN.out CAN2.out.ok).1
          have hul := Pl.unionR_len acc out
          dsimp only at hAl EQ3 CM
          have qS := S2.lt
          clear ST EQ2
          obtain ⟨Q_c, Q_f, Q_l⟩ := id Q
          obtain ⟨S2_c, S2_f, S2_l⟩ := id S2
          obtain ⟨O_c, O_f, O_l⟩ := id O
          obtain ⟨SB_c, SB_f, SB_l⟩ := id SB
          obtain ⟨R_c, R_f, R_l⟩ := id R
          obtain ⟨F_c, F_f, F_l⟩ := id F
          go_wp2_with fail
          refine (join_any out acc o o2 c c2 _ AO.out AQ.out CAN.out CAN2.out (by omega) (by omega)).mono ?_
          rintro e w8 ⟨o3, k3, rfl, A3, hb⟩
          replace A3 := Lib.hid A3
          have B8 : Below w.heap.size w w8 := bcall (by go_grown) hb (by go_size)
          have q8 : wr.heap.size + 0 ≤ w8.heap.size := by have z := hb.size; (try simp only [World.size_alloc, World.size_setCell, World.size_drew] at z); omega
          replace AO := Lib.hid (AO.out.below hb (Nat.le_refl _))
          replace AQ := Lib.hid (AQ.out.below hb (Nat.le_refl _))
          replace Q := (Q).below hb (by go_size)
          replace S2 := (S2).below hb (by go_size)
          replace O := (O).below hb (by go_size)
          replace SB := (SB).below hb (by go_size)
          replace R := (R).below hb (by go_size)
          replace F := (F).below hb (by go_size)
          clear hb
          have s8 : w.heap.size ≤ w8.heap.size := B8.size
          clear Q_c Q_f Q_l S2_c S2_f S2_l O_c O_f O_l SB_c SB_f SB_l R_c R_f R_l F_c F_f F_l
          obtain ⟨Q_c, Q_f, Q_l⟩ := id Q
          obtain ⟨S2_c, S2_f, S2_l⟩ := id S2
          obtain ⟨O_c, O_f, O_l⟩ := id O
          obtain ⟨SB_c, SB_f, SB_l⟩ := id SB
          obtain ⟨R_c, R_f, R_l⟩ := id R
          obtain ⟨F_c, F_f, F_l⟩ := id F
          go_wp2_with fail
          go_roundw
          case rel => exact ⟨i + 1, hlt2, by go_num, o3, k3, Pl.unionR out acc, (O.set (k := 0) (by simp) (.slice o3 (Pl.unionR out acc).length k3)), (A3.out.setBk O (by simp) (j := 0) rfl (fun _ h => by cases h) (.slice o3 (Pl.unionR out acc).length k3)), (SB.far (a := ⟨w.heap.size + 1 + 1, 0, none⟩) (by dsimp only; omega) (.slice o3 (Pl.unionR out acc).length k3)), (R.far (a := ⟨w.heap.size + 1 + 1, 0, none⟩) (by dsimp only; omega) (.slice o3 (Pl.unionR out acc).length k3)), (F.far (a := ⟨w.heap.size + 1 + 1, 0, none⟩) (by dsimp only; omega) (.slice o3 (Pl.unionR out acc).length k3)), by go_grown, EQ3.out, CM.out, by omega⟩
          case measure => simp [intOf]; omega
    · have ET := Pl.altsF_end (by omega) EQ.out
      have EB := Lib.hid (HO.out out ET)
      have CL := Lib.hid (fun (W : World) (o : Option Addr) (k : Nat) (g1 : RIn W out o k) => limited_any out o k W g1)
      obtain ⟨LL, hLL⟩ : ∃ L, Pl.limR out = L := ⟨_, rfl⟩
      obtain ⟨QQ, hQQ⟩ : ∃ Q, Pl.limF out = Q := ⟨_, rfl⟩
      rw [hLL, hQQ] at CL EB
      obtain ⟨y1, y2⟩ := QQ
      delta RRngF at CL
      simp only [fltV] at CL
      clear hLL hQQ ET EQ
      obtain ⟨O_c, O_f, O_l⟩ := id O
      obtain ⟨SB_c, SB_f, SB_l⟩ := id SB
      obtain ⟨R_c, R_f, R_l⟩ := id R
      obtain ⟨F_c, F_f, F_l⟩ := id F
      go_wp2_with fail
      refine (CL.out _ o c AO.out).mono ?_
      rintro e w4 ⟨o4, k4, rfl, A4, hb⟩
      replace A4 := Lib.hid A4
      have B4 : Below w.heap.size w w4 := bcall (by go_grown) hb (by go_size)
      have q4 : wr.heap.size + 0 ≤ w4.heap.size := by have z := hb.size; (try simp only [World.size_alloc, World.size_setCell, World.size_drew] at z); omega
      replace AO := Lib.hid (AO.out.below hb (Nat.le_refl _))
      replace O := (O).below hb (by go_size)
      replace SB := (SB).below hb (by go_size)
      replace R := (R).below hb (by go_size)
      replace F := (F).below hb (by go_size)
      clear hb
      have s4 : w.heap.size ≤ w4.heap.size := B4.size
      clear O_c O_f O_l SB_c SB_f SB_l R_c R_f R_l F_c F_f F_l
      obtain ⟨O_c, O_f, O_l⟩ := id O
      obtain ⟨SB_c, SB_f, SB_l⟩ := id SB
      obtain ⟨R_c, R_f, R_l⟩ := id R
      obtain ⟨F_c, F_f, F_l⟩ := id F
      go_wp2_with fail
      have RN := (((R.set (k := 0) (by simp) (.slice o4 LL.length k4)).far (a := ⟨w.heap.size + 1, 0, none⟩) (by dsimp only; omega) (.int .i64 y1)).far (a := ⟨w.heap.size + 1, 1, none⟩) (by dsimp only; omega) (.int .i64 y2))
      have FN := (((F.far (a := ⟨w.heap.size, 0, none⟩) (by dsimp only; omega) (.slice o4 LL.length k4)).set (k := 0) (by simp) (.int .i64 y1)).set (k := 1) (by simp) (.int .i64 y2))
      obtain ⟨RN_c, RN_f, RN_l⟩ := RN
      obtain ⟨FN_c, FN_f, FN_l⟩ := FN
      refine bodyPost_ret (v := .tuple #[.agg #[.slice o4 LL.length k4], .agg #[.int .i64 y1, .int .i64 y2]]) (by simp [results, Tryz.results11, go_sem, RN_c, FN_c]) rfl ?_
      rw [EB.out.1, EB.out.2]
      exact ⟨o4, k4, rfl, (((A4.out.setBk R (by simp) (j := 0) rfl (fun _ h => by cases h) (.slice o4 LL.length k4)).setBk (F.far (a := ⟨w.heap.size, 0, none⟩) (by dsimp only; omega) (.slice o4 LL.length k4)) (by simp) (j := 0) rfl (fun _ h => by cases h) (.int .i64 y1)).setBk ((F.far (a := ⟨w.heap.size, 0, none⟩) (by dsimp only; omega) (.slice o4 LL.length k4)).set (k := 0) (by simp) (.int .i64 y1)) (by simp) (j := 1) rfl (fun _ h => by cases h) (.int .i64 y2)), by go_grown⟩
end Go.Proofs.YtgngehfgcogceaaGreatDoor

end
