/- Texts joined. -/
import Derived.Test.YtolfgcoalihmgaaGreatDoorZMPo
import Derived.Lib.ItoaNum
namespace Go.Proofs.YtolfgcoalihmgaaGreatDoor
section
namespace Pl
structure Ver where
 maj : Int
 min : Int
 pat : Int
 pre : List ByteArray
def Ver.zero : Ver := ⟨0, 0, 0, []⟩
def bsl (s : ByteArray) : List UInt8 := s.data.toList
theorem bsl_inj {a b : ByteArray} (h : bsl a = bsl b) : a = b := by
 cases a; cases b; simpa [bsl] using h
def preAt : List ByteArray → Nat → Int × Int
 | [], _ => (0, 0)
 | s :: r, k => if identB (bsl s) = true then preAt r (k + 1) else (5, (k : Int))
def vrF (v : Ver) : Int × Int :=
 if inB v.maj 0 1000000000 = false then (3, 0)
 else if inB v.min 0 1000000000 = false then (3, 1)
 else if inB v.pat 0 1000000000 = false then (3, 2)
 else if 4 < v.pre.length then (2, -1)
 else preAt v.pre 0
theorem preAt_cases : ∀ (l : List ByteArray) (k : Nat), preAt l k = (0, 0) ∧ (∀ s ∈ l, identB (bsl s) = true) ∨ (preAt l k).1 ≠ 0
 | [], _ => .inl ⟨rfl, fun s h => by cases h⟩
 | s :: r, k => by
   rw [preAt]
   by_cases h : identB (bsl s) = true
   · rw [if_pos h]
     rcases preAt_cases r (k + 1) with ⟨e, g⟩ | g
     · exact .inl ⟨e, fun x hx => (List.mem_cons.1 hx).elim (fun e => e ▸ h) (g x)⟩
     · exact .inr g
   · rw [if_neg h]; exact .inr (by simp)
theorem preAt_ok : ∀ {l : List ByteArray} {k : Nat}, (∀ s ∈ l, identB (bsl s) = true) → preAt l k = (0, 0)
 | [], _, _ => rfl
 | s :: r, k, h => by rw [preAt, if_pos (h s (by simp))]; exact preAt_ok fun x hx => h x (by simp [hx])
structure Ver.Ok (v : Ver) : Prop where
 m1 : inB v.maj 0 1000000000 = true
 m2 : inB v.min 0 1000000000 = true
 m3 : inB v.pat 0 1000000000 = true
 n : v.pre.length ≤ 4
 i : ∀ s ∈ v.pre, identB (bsl s) = true
theorem vrF_ok {v : Ver} (h : v.Ok) : vrF v = (0, 0) := by
 unfold vrF
 rw [h.m1, h.m2, h.m3, if_neg (by decide), if_neg (by decide), if_neg (by decide), if_neg (by have := h.n; omega), preAt_ok h.i]
theorem vrF_cases (v : Ver) : vrF v = (0, 0) ∧ v.Ok ∨ (vrF v).1 ≠ 0 := by
 unfold vrF
 cases h1 : inB v.maj 0 1000000000
 · exact .inr (by rw [if_pos rfl]; decide)
 cases h2 : inB v.min 0 1000000000
 · exact .inr (by rw [if_neg (by decide), if_pos rfl]; decide)
 cases h3 : inB v.pat 0 1000000000
 · exact .inr (by rw [if_neg (by decide), if_neg (by decide), if_pos rfl]; decide)
 rw [if_neg (by decide), if_neg (by decide), if_neg (by decide)]
 by_cases h4 : 4 < v.pre.length
 · rw [if_pos h4]; exact .inr (by decide)
 · rw [if_neg h4]
   rcases preAt_cases v.pre 0 with ⟨e, g⟩ | g
   · exact .inl ⟨e, h1, h2, h3, by omega, g⟩
   · exact .inr g
def idc (a b : ByteArray) : Int := idCmp (bsl a) (bsl b)
theorem idc_TO : TO idc (fun _ => True) := idCmp_TO.pull bsl _ (fun _ h => h) (fun _ _ _ _ h => bsl_inj h)
def verKey (v : Ver) : Int × Int × Int × Int × List ByteArray := (v.maj, v.min, v.pat, if v.pre.length = 0 then 1 else 0, v.pre)
def verCmp (a b : Ver) : Int := lexP sgn (lexP sgn (lexP sgn (lexP sgn (lexL idc)))) (verKey a) (verKey b)
theorem verCmp_TO : TO verCmp (fun _ => True) := by
 refine (lexP_TO sgn_TO (lexP_TO sgn_TO (lexP_TO sgn_TO (lexP_TO sgn_TO (lexL_TO idc_TO))))).pull verKey _ (fun _ _ => ⟨trivial, trivial, trivial, trivial, fun _ _ => trivial⟩) (fun a b _ _ h => ?_)
 cases a; cases b
 simp only [verKey, Prod.mk.injEq] at h
 obtain ⟨h1, h2, h3, -, h4⟩ := h
 rw [h1, h2, h3, h4]
def zeroId : ByteArray := ⟨#[48]⟩
def verNext (v : Ver) : Ver := ⟨v.maj, v.min, if v.pre.length = 0 then v.pat + 1 else v.pat, v.pre ++ [zeroId]⟩
theorem zero_least {s : ByteArray} (h : identB (bsl s) = true) : idc zeroId s ≤ 0 := by
 obtain ⟨h1, -, -, -⟩ := identB_iff.1 h
 unfold idc
 generalize bsl s = l at *
 have e : idKey (bsl zeroId) = (0, 1, [48]) := rfl
 unfold idCmp lexP
 rw [e]
 unfold idKey
 cases hd : digsB l
 · simp [sgn]
 · rw [if_pos (by simp [sgn])]
   rcases l with _ | ⟨c, l⟩
   · simp at h1
   · simp only [digsB, List.all_cons, Bool.and_eq_true] at hd
     have hc := digB_iff.1 hd.1
     simp only [if_true, List.length_cons]
     unfold sgn
     repeat' split
     all_goals first | omega | skip
     rw [Lib.compareBytes]
     simp only [UInt8.lt_iff_toNat_lt]
     have e8 : (48 : UInt8).toNat = 48 := rfl
     rw [e8]
     repeat' split
     all_goals first | omega | skip
     cases l <;> simp [Lib.compareBytes]
theorem Ver.ext' {a b : Ver} (h1 : a.maj = b.maj) (h2 : a.min = b.min) (h3 : a.pat = b.pat) (h4 : a.pre = b.pre) : a = b := by
 cases a; cases b; cases h1; cases h2; cases h3; cases h4; rfl
theorem sgn_lt {x y : Int} (h : x < y) : sgn x y = -1 := by unfold sgn; rw [if_pos h]
theorem sgn_self (x : Int) : sgn x x = 0 := by unfold sgn; rw [if_neg (by omega), if_neg (by omega)]
theorem sgn_gt {x y : Int} (h : y < x) : sgn x y = 1 := by unfold sgn; rw [if_neg (by omega), if_pos h]
theorem verCmp_eq (a b : Ver) : verCmp a b =
 if sgn a.maj b.maj = 0 then if sgn a.min b.min = 0 then if sgn a.pat b.pat = 0 then
  if sgn (if a.pre.length = 0 then 1 else 0) (if b.pre.length = 0 then 1 else 0) = 0 then lexL idc a.pre b.pre else sgn (if a.pre.length = 0 then 1 else 0) (if b.pre.length = 0 then 1 else 0)
  else sgn a.pat b.pat else sgn a.min b.min else sgn a.maj b.maj := rfl
theorem sgn_zero {x y : Int} : sgn x y = 0 ↔ x = y := by unfold sgn; repeat' split <;> omega
end Pl
end
section
open Go.RowKit
theorem beqF {a b : Int} (h : a ≠ b) : (a == b) = false := by simp [h]
theorem beqT {a b : Int} (h : a = b) : (a == b) = true := by simp [h]
theorem bneF {a b : Int} (h : a = b) : (a != b) = false := by simp [h]
theorem bneT {a b : Int} (h : a ≠ b) : (a != b) = true := by simp [h]
namespace Pl
def numB (s : List UInt8) : Bool := digsB s && decide (0 < s.length)
theorem bsl_len (s : ByteArray) : (bsl s).length = s.size := rfl
theorem bsl_take (s : ByteArray) (k : Nat) (h : k < s.size) : (bsl s).take (k + 1) = (bsl s).take k ++ [s[k]] := by
 unfold bsl
 rw [List.take_succ_eq_append_getElem (by simpa using h)]; rfl
theorem digs_snoc {l : List UInt8} {c : UInt8} : digsB (l ++ [c]) = (digsB l && digB c) := by simp [digsB]
theorem digs_mem {s : ByteArray} {k : Nat} (h : k < s.size) (hd : digB s[k] = false) : digsB (bsl s) = false := by
 unfold digsB
 rw [List.all_eq_false]
 exact ⟨s[k], by unfold bsl; exact List.getElem_mem (by simpa using h), by simp [hd]⟩
theorem digB_of {c : UInt8} (h1 : 48 ≤ (c.toNat : Int)) (h2 : (c.toNat : Int) ≤ 57) : digB c = true := digB_iff.2 (by omega)
theorem digB_not {c : UInt8} (h : (c.toNat : Int) < 48 ∨ 57 < (c.toNat : Int)) : digB c = false := by
 rw [← Bool.not_eq_true, digB_iff]; omega
end Pl
theorem Sign3_any (a b : Int) (w : World) : Calls Tryz.prog 119 #[.int .i64 a, .int .i64 b] w fun e w' => e = .returned (.int .i64 (Pl.sgn a b)) ∧ w = w' := by
 go_enter Tryz.func119, Tryz.ntmps119
 go_wp2
 all_goals (go_ret; exact ⟨ret_int (by unfold Pl.sgn; repeat' split <;> omega), rfl⟩)
theorem Numeric_any (s : ByteArray) (w : World) (hs : s.size ≤ 9223372036854775807) :
 Calls Tryz.prog 104 #[.string s] w fun e w' => e = .returned (.bool (Pl.numB (Pl.bsl s))) ∧ w = w' := by
 go_enter Tryz.func104, Tryz.ntmps104
 go_wp2
 go_loop [3] (fun i => ∃ k : Nat, k ≤ s.size ∧ i = .int .i64 k ∧ Hid (Pl.digsB ((Pl.bsl s).take k) = true)) (fun i => s.size - (intOf i).toNat)
 case atStart => exact ⟨0, Nat.zero_le _, rfl, rfl⟩
 case round =>
  obtain ⟨k, hk, rfl, hu⟩ := hrel
  by_cases hlt : k < s.size
  · have hts := Hd (Pl.bsl_take s k hlt)
    have hm := Hd (fun h => Pl.digs_mem (s := s) (k := k) hlt h)
    go_wp2
    all_goals first
     | (go_round
        case rel => exact ⟨k + 1, by omega, by go_num, Hd (by rw [hts.out, Pl.digs_snoc, hu.out, Pl.digB_of (by omega) (by omega)]; rfl)⟩
        case measure => simp [intOf]; omega)
     | (go_ret
        exact ⟨ret_bool (by unfold Pl.numB; rw [hm.out (Pl.digB_not (by omega))]; rfl), rfl⟩)
  · have E := Hd (show Pl.digsB (Pl.bsl s) = true by have := hu.out; rwa [List.take_of_length_le (by rw [Pl.bsl_len]; omega)] at this)
    go_wp2
    go_ret
    exact ⟨ret_bool (by unfold Pl.numB; rw [E.out, Pl.bsl_len]; simp), rfl⟩
end
section
open Go.RowKit
namespace Pl
theorem valL_snoc (l : List UInt8) (c : UInt8) : valL (l ++ [c]) = 10 * valL l + ((c.toNat : Int) - 48) := by
 unfold valL; rw [List.foldl_append]; rfl
theorem digs_take {l : List UInt8} (h : digsB l = true) (k : Nat) : digsB (l.take k) = true := by
 unfold digsB at *
 rw [List.all_eq_true] at *
 exact fun x hx => h x (List.mem_of_mem_take hx)
theorem digs_get {s : ByteArray} {k : Nat} (h : digsB (bsl s) = true) (hk : k < s.size) : 48 ≤ (s[k].toNat : Int) ∧ (s[k].toNat : Int) ≤ 57 := by
 unfold digsB at h
 rw [List.all_eq_true] at h
 have := digB_iff.1 (h s[k] (by unfold bsl; exact List.getElem_mem (by simpa using hk)))
 omega
theorem valL_le8 {l : List UInt8} (h : digsB l = true) (hl : l.length ≤ 8) : 0 ≤ valL l ∧ valL l < 100000000 := by
 have h1 := valL_bounds h
 have h2 : (10 : Int) ^ l.length ≤ 10 ^ 8 := by
  have := Nat.pow_le_pow_right (n := 10) (by omega) hl
  exact_mod_cast this
 omega
theorem idcB_snoc {s : ByteArray} {k : Nat} (hk : k < s.size) (hu : ((bsl s).take k).all idcB = true) (h : idcB s[k] = true) : ((bsl s).take (k + 1)).all idcB = true := by
 rw [bsl_take s k hk, List.all_append, hu]; simp [h]
theorem idcB_bad {s : ByteArray} {k : Nat} (hk : k < s.size) (h : idcB s[k] = false) : identB (bsl s) = false := by
 have : (bsl s).all idcB = false := by
  rw [List.all_eq_false]
  exact ⟨s[k], by unfold bsl; exact List.getElem_mem (by simpa using hk), by simp [h]⟩
 unfold identB; rw [this]; simp
theorem idcB_eq (c : UInt8) : idcB c = (inB (c.toNat : Int) 48 57 || inB (c.toNat : Int) 97 122 || inB (c.toNat : Int) 65 90 || decide ((c.toNat : Int) = 45)) := by
 have e : (c == 45) = decide ((c.toNat : Int) = 45) := by
  rw [Bool.eq_iff_iff]; simp [← UInt8.toNat_inj]; omega
 unfold idcB digB inB
 rw [e]
 congr 1
 congr 1
 · congr 1
   · rw [Bool.eq_iff_iff]; simp; omega
   · rw [Bool.eq_iff_iff]; simp; omega
 · rw [Bool.eq_iff_iff]; simp; omega
def leadB (s : List UInt8) : Bool := digsB s && decide (1 < s.length) && s.head? == some 48
theorem identB_lead (s : List UInt8) : identB s = (decide (1 ≤ s.length) && decide (s.length ≤ 8) && s.all idcB && !leadB s) := rfl
theorem head_get {s : ByteArray} (h : 0 < s.size) : (bsl s).head? = some s[0] := by
 have : (bsl s)[0]? = some s[0] := by
  rw [List.getElem?_eq_getElem (by simpa [bsl_len] using h)]; rfl
 rw [← this, List.head?_eq_getElem?]
end Pl
theorem value_any (s : ByteArray) (w : World) (hs : s.size ≤ 8) (hd : Pl.digsB (Pl.bsl s) = true) :
 Calls Tryz.prog 149 #[.string s] w fun e w' => e = .returned (.int .i64 (Pl.valL (Pl.bsl s))) ∧ w = w' := by
 have HD := Hd hd
 clear hd
 go_enter Tryz.func149, Tryz.ntmps149
 go_wp2
 go_loop [3, 4] (fun n i => ∃ k : Nat, k ≤ s.size ∧ i = .int .i64 k ∧ n = .int .i64 (Pl.valL ((Pl.bsl s).take k))) (fun _ i => s.size - (intOf i).toNat)
 case atStart => exact ⟨0, Nat.zero_le _, rfl, rfl⟩
 case round =>
  obtain ⟨k, hk, rfl, rfl⟩ := hrel
  by_cases hlt : k < s.size
  · have hts := Hd (show Pl.valL ((Pl.bsl s).take (k + 1)) = _ by rw [Pl.bsl_take s k hlt, Pl.valL_snoc])
    have hb := Pl.valL_le8 (Pl.digs_take HD.out k) (by rw [List.length_take, Pl.bsl_len]; omega)
    have hc := Pl.digs_get HD.out hlt
    generalize Pl.valL ((Pl.bsl s).take k) = V at *
    go_wp2
    go_round
    case rel => exact ⟨k + 1, by omega, by go_num, by rw [hts.out]⟩
    case measure => simp [intOf]; omega
  · have e : (Pl.bsl s).take k = Pl.bsl s := List.take_of_length_le (by rw [Pl.bsl_len]; omega)
    rw [e]
    clear e
    go_wp2
    go_ret
    exact ⟨rfl, rfl⟩
set_option maxHeartbeats 1000000 in
theorem Identifier_any (s : ByteArray) (w : World) (hs : s.size ≤ 9223372036854775807) :
 Calls Tryz.prog 58 #[.string s] w fun e w' => e = .returned (.bool (Pl.identB (Pl.bsl s))) ∧ w = w' := by
 by_cases h1 : 1 ≤ s.size ∧ s.size ≤ 8
 · have i1 : Pl.inB (s.size : Int) 1 8 = true := Pl.inB_true.2 (by omega)
   have hlen := Hd (Pl.bsl_len s)
   cases hl : Pl.leadB (Pl.bsl s) with
   | true =>
     have E := Hd (show Pl.identB (Pl.bsl s) = false by rw [Pl.identB_lead, hl]; simp)
     have h2 := hl
     unfold Pl.leadB at h2
     simp only [Bool.and_eq_true, decide_eq_true_eq, beq_iff_eq] at h2
     have hn : Pl.numB (Pl.bsl s) = true := by unfold Pl.numB; rw [h2.1.1]; simp [hlen.out]; omega
     have hz : ((s[0]'(by omega)).toNat : Int) = 48 := by
      have := h2.2
      rw [Pl.head_get (by omega)] at this
      simp only [Option.some.injEq] at this
      rw [this]; rfl
     have hz' : (((s[0]'(by omega)).toNat : Int) == 48) = true := by simp [hz]
     have hgt : 1 < s.size := by have := h2.1.2; rw [hlen.out] at this; exact this
     clear h2 hl hz
     go_enter Tryz.func58, Tryz.ntmps58
     go_wp2_with (first | (go_at_call 56; refine (rin_any _ _ _ _).mono ?_; rintro e w' ⟨rfl, rfl⟩) | (go_at_call 104; refine (Numeric_any _ _ hs).mono ?_; rintro e w' ⟨rfl, rfl⟩))
     go_ret
     exact ⟨ret_bool E.out.symm, rfl⟩
   | false =>
     have hcase : Pl.numB (Pl.bsl s) = false ∨ (Pl.numB (Pl.bsl s) = true ∧ s.size ≤ 1) ∨ (Pl.numB (Pl.bsl s) = true ∧ 1 < s.size ∧ ∃ h : 0 < s.size, ((s[0].toNat : Int) == 48) = false) := by
      cases hn : Pl.numB (Pl.bsl s) with
      | false => exact .inl rfl
      | true =>
        right
        by_cases hg : 1 < s.size
        · right
          refine ⟨rfl, hg, by omega, ?_⟩
          have h2 := hl
          unfold Pl.leadB at h2
          unfold Pl.numB at hn
          simp only [Bool.and_eq_true] at hn
          rw [hn.1, hlen.out, decide_eq_true hg, Pl.head_get (by omega)] at h2
          simp only [Bool.true_and, beq_eq_false_iff_ne, ne_eq, Option.some.injEq] at h2
          rw [beq_eq_false_iff_ne]
          intro h3
          exact h2 (by rw [← UInt8.toNat_inj]; show _ = 48; omega)
        · exact .inl ⟨rfl, by omega⟩
     have HL := Hd hl
     clear hl
     rcases hcase with hn | ⟨hn, hg⟩ | ⟨hn, hg, _, hz⟩
     all_goals
      go_enter Tryz.func58, Tryz.ntmps58
      go_wp2_with (first | (go_at_call 56; refine (rin_any _ _ _ _).mono ?_; rintro e w' ⟨rfl, rfl⟩) | (go_at_call 104; refine (Numeric_any _ _ hs).mono ?_; rintro e w' ⟨rfl, rfl⟩))
      go_loop [3] (fun i => ∃ k : Nat, k ≤ s.size ∧ i = .int .i64 k ∧ Hid (((Pl.bsl s).take k).all Pl.idcB = true)) (fun i => s.size - (intOf i).toNat)
      case atStart => exact ⟨0, Nat.zero_le _, rfl, rfl⟩
      case round =>
       obtain ⟨k, hk, rfl, hu⟩ := hrel
       by_cases hlt : k < s.size
       · have hgood := Hd (fun h => Pl.idcB_snoc (s := s) (k := k) hlt hu.out h)
         have hbad := Hd (fun h => Pl.idcB_bad (s := s) (k := k) hlt h)
         have hq := Pl.idcB_eq s[k]
         have finG : Pl.idcB s[k] = true → Hid (((Pl.bsl s).take (k + 1)).all Pl.idcB = true) := fun h => hgood.out h
         have hc : Pl.inB (s[k].toNat : Int) 48 57 = true ∧ Pl.idcB s[k] = true ∨ Pl.inB (s[k].toNat : Int) 48 57 = false ∧ Pl.inB (s[k].toNat : Int) 97 122 = true ∧ Pl.idcB s[k] = true ∨
          Pl.inB (s[k].toNat : Int) 48 57 = false ∧ Pl.inB (s[k].toNat : Int) 97 122 = false ∧ Pl.inB (s[k].toNat : Int) 65 90 = true ∧ Pl.idcB s[k] = true ∨
          Pl.inB (s[k].toNat : Int) 48 57 = false ∧ Pl.inB (s[k].toNat : Int) 97 122 = false ∧ Pl.inB (s[k].toNat : Int) 65 90 = false ∧ ((s[k].toNat : Int) != 45) = false ∧ Pl.idcB s[k] = true ∨
          Pl.inB (s[k].toNat : Int) 48 57 = false ∧ Pl.inB (s[k].toNat : Int) 97 122 = false ∧ Pl.inB (s[k].toNat : Int) 65 90 = false ∧ ((s[k].toNat : Int) != 45) = true ∧ Pl.idcB s[k] = false := by
          rw [hq]
          cases Pl.inB (s[k].toNat : Int) 48 57 <;> cases Pl.inB (s[k].toNat : Int) 97 122 <;> cases Pl.inB (s[k].toNat : Int) 65 90 <;> simp
          by_cases h45 : (s[k].toNat : Int) = 45
          · left; exact h45
          · right; exact h45
         have h255 : (s[k].toNat : Int) ≤ 255 := by have := s[k].toNat_lt; omega
         clear hq hgood
         rcases hc with ⟨a1, g⟩ | ⟨a1, a2, g⟩ | ⟨a1, a2, a3, g⟩ | ⟨a1, a2, a3, a4, g⟩ | ⟨a1, a2, a3, a4, g⟩
         all_goals first
          | (replace finG := finG g
             clear g hbad
             go_wp2_with (go_at_call 56; refine (rin_any _ _ _ _).mono ?_; rintro e w' ⟨rfl, rfl⟩)
             go_round
             case rel => exact ⟨k + 1, by omega, by go_num, finG⟩
             case measure => simp [intOf]; omega)
          | (have E := Hd (hbad.out g)
             clear g hbad finG
             go_wp2_with (go_at_call 56; refine (rin_any _ _ _ _).mono ?_; rintro e w' ⟨rfl, rfl⟩)
             go_ret
             exact ⟨ret_bool E.out.symm, rfl⟩)
       · have E := Hd (show Pl.identB (Pl.bsl s) = true by
          have := hu.out
          rw [List.take_of_length_le (by rw [Pl.bsl_len]; omega)] at this
          rw [Pl.identB_lead, this, HL.out, Pl.bsl_len]
          simp [h1])
         go_wp2
         go_ret
         exact ⟨ret_bool E.out.symm, rfl⟩
 · have i1 : Pl.inB (s.size : Int) 1 8 = false := Pl.inB_false.2 (by omega)
   have E := Hd (show Pl.identB (Pl.bsl s) = false by
    rw [Pl.identB_lead, Pl.bsl_len]
    by_cases h : 1 ≤ s.size
    · rw [decide_eq_false (show ¬ s.size ≤ 8 by omega)]; simp
    · rw [decide_eq_false h]; simp)
   clear h1
   go_enter Tryz.func58, Tryz.ntmps58
   go_wp2_with (first | (go_at_call 56; refine (rin_any _ _ _ _).mono ?_; rintro e w' ⟨rfl, rfl⟩) | (go_at_call 104; refine (Numeric_any _ _ hs).mono ?_; rintro e w' ⟨rfl, rfl⟩))
   go_ret
   exact ⟨ret_bool E.out.symm, rfl⟩
end
section
namespace Pl
def EqTo {α : Type} (c : α → α → Int) (a b : List α) (k : Nat) : Prop := ∀ j (h1 : j < a.length) (h2 : j < b.length), j < k → c a[j] b[j] = 0
theorem EqTo.zero {α : Type} (c : α → α → Int) (a b : List α) : EqTo c a b 0 := fun _ _ _ h => absurd h (by omega)
theorem EqTo.succ {α : Type} {c : α → α → Int} {a b : List α} {k : Nat} (h : EqTo c a b k) (h1 : k < a.length) (h2 : k < b.length) (e : c a[k] b[k] = 0) : EqTo c a b (k + 1) := fun j j1 j2 hj => by
 by_cases hk : j = k
 · subst hk; exact e
 · exact h j j1 j2 (by omega)
theorem lexL_at {α : Type} {c : α → α → Int} : ∀ {a b : List α} {k : Nat} (_ : EqTo c a b k) (h1 : k < a.length) (h2 : k < b.length), c a[k] b[k] ≠ 0 → lexL c a b = c a[k] b[k]
 | [], _, _, _, h1, _, _ => by simp at h1
 | _ :: _, [], _, _, _, h2, _ => by simp at h2
 | x :: a, y :: b, 0, _, _, _, hne => by
   simp only [List.getElem_cons_zero] at *
   rw [lexL, if_neg hne]
 | x :: a, y :: b, k + 1, h, h1, h2, hne => by
   have h0 := h 0 (by simp) (by simp) (by omega)
   simp only [List.getElem_cons_zero, List.getElem_cons_succ] at *
   rw [lexL, if_pos h0]
   exact lexL_at (k := k) (fun j j1 j2 hj => by have := h (j + 1) (by simpa using j1) (by simpa using j2) (by omega); simpa using this) (by simpa using h1) (by simpa using h2) hne
theorem lexL_end {α : Type} {c : α → α → Int} : ∀ {a b : List α} {k : Nat} (_ : EqTo c a b k), k ≤ a.length → k ≤ b.length → (k = a.length ∨ k = b.length) → lexL c a b = sgn (a.length : Int) (b.length : Int)
 | [], [], _, _, _, _, _ => by simp [lexL, sgn]
 | [], y :: b, _, _, _, _, _ => by simp only [lexL, sgn, List.length_nil, List.length_cons]; rw [if_pos (by omega)]
 | x :: a, [], _, _, _, _, _ => by simp only [lexL, sgn, List.length_nil, List.length_cons]; rw [if_neg (by omega), if_pos (by omega)]
 | x :: a, y :: b, 0, _, _, _, h => by simp at h
 | x :: a, y :: b, k + 1, h, h1, h2, h3 => by
   have h0 := h 0 (by simp) (by simp) (by omega)
   simp only [List.getElem_cons_zero] at h0
   simp only [List.length_cons] at *
   rw [lexL, if_pos h0, lexL_end (k := k) (fun j j1 j2 hj => by have := h (j + 1) (by simpa using j1) (by simpa using j2) (by omega); simpa using this) (by omega) (by omega) (by omega)]
   unfold sgn
   repeat' split <;> omega
def digS (n : Int) : List UInt8 := Lib.decDigits n.toNat
end Pl
end
end Go.Proofs.YtolfgcoalihmgaaGreatDoor
