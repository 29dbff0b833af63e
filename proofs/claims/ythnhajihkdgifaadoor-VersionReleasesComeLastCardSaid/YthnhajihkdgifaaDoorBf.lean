/- Contracts: lists of identifiers compared by the library; identifiers compared by the reference. -/
import Derived.Test.YthnhajihkdgifaaDoorBe
namespace Go.Proofs.YthnhajihkdgifaaDoor
open Go.RowKit

/-- Strings in memory, place by place. -/
theorem Sl.strAt {w : World} {oa : Option Addr} {cap : Nat} {xs : List ByteArray} (h : Sl w oa xs.length cap 1 (strVals xs)) (h0 : 0 < xs.length) : ∃ b off, oa = some ⟨b, off, none⟩ ∧ b < w.heap.size ∧ ∀ k (hk : k < xs.length), w.cell? ⟨b, off + k, none⟩ = some (.string xs[k]) := by
  rcases h.mem with h1 | ⟨b, off, h1, h2, h3⟩
  · have : xs = [] := by simpa [strVals] using h1
    subst this; simp at h0
  · exact ⟨b, off, h1, h2, fun k hk => h3 k _ (strVals_get xs k hk)⟩

set_option maxHeartbeats 1000000 in
theorem CompareFunc_any (a b : List ByteArray) (oa ob : Option Addr) (ca cb : Nat) (w : World) (ha : Sl w oa a.length ca 1 (strVals a)) (hb : Sl w ob b.length cb 1 (strVals b)) (la : a.length ≤ 9223372036854775807) (lb : b.length ≤ 9223372036854775807)
    (va : ∀ s ∈ a, Pl.asciiB (Pl.bsl s) = true ∧ s.size ≤ 9223372036854775807) (vb : ∀ s ∈ b, Pl.asciiB (Pl.bsl s) = true ∧ s.size ≤ 9223372036854775807) :
    Calls Tryd.prog 46 #[.slice oa a.length ca, .slice ob b.length cb, .func (.func 47) #[] #[]] w fun e w' => e = .returned (.int .i64 (Pl.lexL Pl.idc a b)) ∧ Below w.heap.size w w' := by
  have VA := Lib.hid va
  have VB := Lib.hid vb
  clear va vb
  go_enter Tryd.func46, Tryd.ntmps46
  go_wp2
  go_loopw [13] (fun i wr => ∃ k : Nat, k ≤ a.length ∧ k ≤ b.length ∧ i = .int .i64 k ∧ Hid (Pl.EqTo Pl.idc a b k) ∧ Below w.heap.size w wr) (fun i _ => a.length - (intOf i).toNat)
  case atStart => exact ⟨0, Nat.zero_le _, Nat.zero_le _, rfl, Pl.EqTo.zero _ _ _, Below.refl _ _⟩
  case round =>
    obtain ⟨k, hk, hkb, rfl, hu, hbw⟩ := hrel
    have sw := hbw.size
    by_cases hlt : k < a.length
    · obtain ⟨ba, offa, rfl, hla, hca⟩ := ha.strAt (by omega)
      have c1 : wr.cell? ⟨ba, offa + k, none⟩ = some (.string a[k]) := by rw [hbw.cell (p := ⟨ba, offa + k, none⟩) hla]; exact hca k hlt
      by_cases hlt2 : k < b.length
      · obtain ⟨bb, offb, rfl, hlb, hcb⟩ := hb.strAt (by omega)
        have c2 : wr.cell? ⟨bb, offb + k, none⟩ = some (.string b[k]) := by rw [hbw.cell (p := ⟨bb, offb + k, none⟩) hlb]; exact hcb k hlt2
        have v1 := Lib.hid (VA.out _ (List.getElem_mem hlt))
        have v2 := Lib.hid (VB.out _ (List.getElem_mem hlt2))
        have st := Lib.hid (fun h => hu.out.succ hlt hlt2 h)
        have en := Lib.hid (fun h => Pl.lexL_at hu.out hlt hlt2 h)
        clear hca hcb
        generalize a[k] = x at *
        generalize b[k] = y at *
        by_cases hz : Pl.idc x y = 0
        · have t1 := bneF hz
          have t2 := beqT hz
          have st := Lib.hid (st.out hz)
          clear en hz
          go_wp2_with (go_at_call 47; refine (compareIdentifiers_any x y _ v1.out.1 v2.out.1 v1.out.2 v2.out.2).mono ?_; rintro e w1 ⟨rfl, b1⟩)
          go_roundw
          case rel => exact ⟨k + 1, hlt, hlt2, by go_num, st, bcall hbw b1 hbw.size⟩
          case measure => simp [intOf]; omega
        · have t1 := bneT hz
          have t2 := beqF hz
          have en := Lib.hid (en.out hz)
          clear st hz
          go_wp2_with (go_at_call 47; refine (compareIdentifiers_any x y _ v1.out.1 v2.out.1 v1.out.2 v2.out.2).mono ?_; rintro e w1 ⟨rfl, b1⟩)
          go_ret
          exact ⟨ret_int en.out.symm, bcall hbw b1 hbw.size⟩
      · have E := Lib.hid (show Pl.lexL Pl.idc a b = 1 by
          rw [Pl.lexL_end hu.out hk hkb (by omega)]; exact Pl.sgn_gt (by omega))
        clear hca
        generalize a[k] = x at *
        go_wp2_with fail
        go_ret
        exact ⟨ret_int E.out.symm, hbw⟩
    · have E := Lib.hid (show Pl.lexL Pl.idc a b = Pl.sgn (a.length : Int) (b.length : Int) from Pl.lexL_end hu.out hk hkb (by omega))
      have hab : a.length ≤ b.length := by omega
      by_cases hl : a.length < b.length
      · rw [Pl.sgn_lt (by omega)] at E
        go_wp2_with fail
        go_ret
        exact ⟨ret_int E.out.symm, hbw⟩
      · rw [Pl.sgn_zero.2 (by omega)] at E
        go_wp2_with fail
        go_ret
        exact ⟨ret_int E.out.symm, hbw⟩

theorem quiet_add_left {P : Program} {f : FuncId} {args : Array Value} {w : World} {a n : Nat} {v : Value}
    (h : Calls P f args (w.drewN (a + n)) fun e w' => e = .returned v ∧ w.drewN (a + n) = w') : Calls P f args (w.drewN (a + n)) fun e w'' => e = .returned v ∧ ∃ m, w'' = w.drewN (a + m) :=
  h.mono fun _ _ ⟨he, hm⟩ => ⟨he, n, hm.symm⟩
theorem quiet_q {P : Program} {f : FuncId} {args : Array Value} {w : World} {n : Nat} {v : Value}
    (h : Calls P f args (w.drewN n) fun e w' => e = .returned v ∧ ∃ q, w' = (w.drewN n).drewN q) : Calls P f args (w.drewN n) fun e w'' => e = .returned v ∧ ∃ m, w'' = w.drewN m :=
  h.mono fun _ _ ⟨he, m, hm⟩ => ⟨he, n + m, by rw [hm, World.drewN_drewN]⟩
theorem quiet_add_q {P : Program} {f : FuncId} {args : Array Value} {w : World} {a n : Nat} {v : Value}
    (h : Calls P f args (w.drewN (a + n)) fun e w' => e = .returned v ∧ ∃ q, w' = (w.drewN (a + n)).drewN q) : Calls P f args (w.drewN (a + n)) fun e w'' => e = .returned v ∧ ∃ m, w'' = w.drewN (a + m) :=
  h.mono fun _ _ ⟨he, m, hm⟩ => ⟨he, n + m, by rw [hm, World.drewN_drewN, Nat.add_assoc]⟩
namespace Pl
def byteC (a b : UInt8) : Int := sgn a.toNat b.toNat
theorem cmpB_lex (a b : List UInt8) : Lib.compareBytes a b = lexL byteC a b := compareBytes_lex a b
theorem bsl_get (s : ByteArray) (k : Nat) (h : k < s.size) : (bsl s)[k]'(by rw [bsl_len]; exact h) = s[k] := rfl
theorem bytes_at {a b : ByteArray} {k : Nat} (h : EqTo byteC (bsl a) (bsl b) k) (h1 : k < a.size) (h2 : k < b.size) :
    ((a[k].toNat : Int) = (b[k].toNat : Int) → EqTo byteC (bsl a) (bsl b) (k + 1)) ∧ ((a[k].toNat : Int) ≠ (b[k].toNat : Int) → Lib.compareBytes (bsl a) (bsl b) = sgn (a[k].toNat : Int) (b[k].toNat : Int)) := by
  refine ⟨fun e => h.succ h1 h2 ?_, fun e => ?_⟩
  · show sgn _ _ = 0
    exact sgn_zero.2 e
  · rw [cmpB_lex, lexL_at h h1 h2 (fun e2 => e (sgn_zero.1 e2))]; rfl
theorem bytes_end {a b : ByteArray} {k : Nat} (h : EqTo byteC (bsl a) (bsl b) k) (h1 : k ≤ a.size) (h2 : k ≤ b.size) (h3 : k = a.size ∨ k = b.size) : Lib.compareBytes (bsl a) (bsl b) = sgn (a.size : Int) (b.size : Int) := by
  rw [cmpB_lex]; exact lexL_end h h1 h2 h3
end Pl

set_option maxHeartbeats 1000000 in
theorem identifiers_any (a b : ByteArray) (w : World) (ha : Pl.identB (Pl.bsl a) = true) (hb : Pl.identB (Pl.bsl b) = true) :
    Calls Tryd.prog 32 #[.string a, .string b] w fun e w' => e = .returned (.int .i64 (Pl.idc a b)) ∧ ∃ q, w' = w.drewN q := by
  obtain ⟨a1, a2, -, -⟩ := Pl.identB_iff.1 ha
  obtain ⟨b1, b2, -, -⟩ := Pl.identB_iff.1 hb
  rw [Pl.bsl_len] at a1 a2 b1 b2
  have sa : a.size ≤ 9223372036854775807 := by omega
  have sb : b.size ≤ 9223372036854775807 := by omega
  have na : Pl.numB (Pl.bsl a) = Pl.digsB (Pl.bsl a) := by unfold Pl.numB; rw [Pl.bsl_len, decide_eq_true (by omega), Bool.and_true]
  have nb : Pl.numB (Pl.bsl b) = Pl.digsB (Pl.bsl b) := by unfold Pl.numB; rw [Pl.bsl_len, decide_eq_true (by omega), Bool.and_true]
  have HR := Pl.idRef_eq ha hb
  unfold Pl.idRef at HR
  clear ha hb
  cases d1 : Pl.digsB (Pl.bsl a)
  · cases d2 : Pl.digsB (Pl.bsl b)
    · rw [d1, d2] at HR
      rw [d1] at na
      rw [d2] at nb
      have E := Lib.hid (show Lib.compareBytes (Pl.bsl a) (Pl.bsl b) = Pl.idc a b by rw [show Pl.idc a b = Pl.idCmp (Pl.bsl a) (Pl.bsl b) from rfl, ← HR]; simp)
      clear HR d1 d2
      go_enter Tryd.func32, Tryd.ntmps32
      go_wp2_with (go_at_call 42; refine (Numeric_any _ _ (by assumption)).mono ?_; rintro e w' ⟨rfl, rfl⟩)
      go_loopw [5] (fun i wr => ∃ k : Nat, k ≤ a.size ∧ k ≤ b.size ∧ i = .int .i64 k ∧ Hid (Pl.EqTo Pl.byteC (Pl.bsl a) (Pl.bsl b) k) ∧ ∃ q, wr = w.drewN q) (fun i _ => a.size - (intOf i).toNat)
      case atStart => exact ⟨0, Nat.zero_le _, Nat.zero_le _, rfl, Pl.EqTo.zero _ _ _, 0, rfl⟩
      case round =>
        obtain ⟨k, hk, hkb, rfl, hu, q, rfl⟩ := hrel
        by_cases hlt : k < a.size
        · by_cases hlt2 : k < b.size
          · obtain ⟨g1, g2⟩ := Pl.bytes_at hu.out hlt hlt2
            by_cases he : (a[k].toNat : Int) = (b[k].toNat : Int)
            · have t1 := bneF he
              have t2 := beqT he
              have st := Lib.hid (g1 he)
              clear g1 g2 he
              go_wp2_with fail
              go_quiet (fail)
              go_wp2_with fail
              go_roundw
              case rel => exact ⟨k + 1, hlt, hlt2, by go_num, st, _, rfl⟩
              case measure => simp [intOf]; omega
            · have t1 := bneT he
              have t2 := beqF he
              have e2 := Lib.hid ((g2 he).symm.trans E.out)
              have h255 : (a[k].toNat : Int) ≤ 255 := by have := a[k].toNat_lt; omega
              have g255 : (b[k].toNat : Int) ≤ 255 := by have := b[k].toNat_lt; omega
              clear g1 g2 he
              go_wp2_with fail
              go_quiet (fail)
              go_wp2_with fail
              go_quiet ((go_at_call 31; exact quiet_add_left (Sign3_any _ _ _)))
              go_wp2_with fail
              go_ret
              exact ⟨ret_int e2.out, _, by rw [World.drewN_drewN, World.drewN_drewN]⟩
          · have e2 := Lib.hid ((Pl.bytes_end hu.out hk hkb (by omega)).symm.trans E.out)
            go_wp2_with (go_at_call 31; refine (Sign3_any _ _ _).mono ?_; rintro e w' ⟨rfl, rfl⟩)
            go_ret
            exact ⟨ret_int e2.out, q, rfl⟩
        · have e2 := Lib.hid ((Pl.bytes_end hu.out hk hkb (by omega)).symm.trans E.out)
          go_wp2_with (go_at_call 31; refine (Sign3_any _ _ _).mono ?_; rintro e w' ⟨rfl, rfl⟩)
          go_ret
          exact ⟨ret_int e2.out, q, rfl⟩
    · rw [d1, d2] at HR
      rw [d1] at na
      rw [d2] at nb
      have E := Lib.hid (show 1 = Pl.idc a b by rw [show Pl.idc a b = Pl.idCmp (Pl.bsl a) (Pl.bsl b) from rfl, ← HR]; simp)
      clear HR d1 d2
      go_enter Tryd.func32, Tryd.ntmps32
      go_wp2_with (go_at_call 42; refine (Numeric_any _ _ (by assumption)).mono ?_; rintro e w' ⟨rfl, rfl⟩)
      go_ret
      exact ⟨ret_int E.out, 0, rfl⟩
  · cases d2 : Pl.digsB (Pl.bsl b)
    · rw [d1, d2] at HR
      rw [d1] at na
      rw [d2] at nb
      have E := Lib.hid (show -1 = Pl.idc a b by rw [show Pl.idc a b = Pl.idCmp (Pl.bsl a) (Pl.bsl b) from rfl, ← HR]; simp)
      clear HR d1 d2
      go_enter Tryd.func32, Tryd.ntmps32
      go_wp2_with (go_at_call 42; refine (Numeric_any _ _ (by assumption)).mono ?_; rintro e w' ⟨rfl, rfl⟩)
      go_ret
      exact ⟨ret_int E.out, 0, rfl⟩
    · rw [d1, d2] at HR
      rw [d1] at na
      rw [d2] at nb
      have E := Lib.hid (show Pl.sgn (Pl.valL (Pl.bsl a)) (Pl.valL (Pl.bsl b)) = Pl.idc a b by rw [show Pl.idc a b = Pl.idCmp (Pl.bsl a) (Pl.bsl b) from rfl, ← HR]; simp)
      have D1 := Lib.hid d1
      have D2 := Lib.hid d2
      clear HR d1 d2
      go_enter Tryd.func32, Tryd.ntmps32
      go_wp2_with (first | (go_at_call 42; refine (Numeric_any _ _ (by assumption)).mono ?_; rintro e w' ⟨rfl, rfl⟩) | (go_at_call 48; refine (value_any _ _ (by assumption) (by first | exact D1.out | exact D2.out)).mono ?_; rintro e w' ⟨rfl, rfl⟩) | (go_at_call 31; refine (Sign3_any _ _ _).mono ?_; rintro e w' ⟨rfl, rfl⟩))
      go_ret
      exact ⟨ret_int E.out, 0, rfl⟩
end Go.Proofs.YthnhajihkdgifaaDoor
