/- Texts joined: Ok Ol Qg Qh. -/
import Derived.Test.YtgngehfgcogceaaGreatDoorZMQf
section
/- Contract: needs with the releases that satisfy them (solver.demands). -/
namespace Go.Proofs.YtgngehfgcogceaaGreatDoor
open Go.RowKit

set_option maxRecDepth 100000 in
theorem Tryz.tDem : ElemT Tryz.prog 60 92 5 16 := ⟨Tryz.underlying60, ⟨_, _, rfl, rfl, rfl, rfl, rfl⟩, by decide, by decide⟩
/-- A demand's cells. -/
def Pd (u : Pl.Uni) (_ : World) (_ : Nat → Prop) (d : Pl.Need) (cs : List Value) : Prop := cs = [.int .i64 d.pk, .bool (Pl.hasAt u d 0), .bool (Pl.hasAt u d 1), .bool (Pl.hasAt u d 2), .bool (Pl.hasAt u d 3)]
theorem cloD (u : Pl.Uni) : Clo 5 (Pd u) where
  len h := by rw [h]; rfl
  one h := by
    rw [h]
    exact List.all_eq_true.1 rfl
  mono h _ := h
  grown h _ _ := h
namespace Pl
/-- .. as far as the releases have been looked at. -/
def hasTo (u : Uni) (d : Need) (i j : Nat) : Bool := decide (j < i) && hasAt u d j
theorem hasTo_z (u : Uni) (d : Need) (j : Nat) : hasTo u d 0 j = false := by unfold hasTo; rw [decide_eq_false (by omega)]; rfl
theorem hasTo_end {u : Uni} {d : Need} {n : Nat} (h : ∀ j, n ≤ j → hasAt u d j = false) (j : Nat) : hasTo u d n j = hasAt u d j := by
  unfold hasTo
  by_cases c : j < n
  · rw [decide_eq_true c]; rfl
  · rw [decide_eq_false c, h j (by omega)]; rfl
theorem hasAt_in {u : Uni} {d : Need} {p : Nat} (hp : d.pk = p) (h : p < u.length) {k : Nat} (hk : k < u[p].length) : hasAt u d k = hasB d.rg u[p][k].v := by
  have e : d.at' = p := by unfold Need.at'; omega
  unfold hasAt
  rw [e, List.getElem?_eq_getElem h]
  simp only [List.getElem?_eq_getElem hk]
theorem hasAt_out {u : Uni} {d : Need} {p : Nat} (hp : d.pk = p) (h : p < u.length) (k : Nat) (hk : u[p].length ≤ k) : hasAt u d k = false := by
  have e : d.at' = p := by unfold Need.at'; omega
  unfold hasAt
  rw [e, List.getElem?_eq_getElem h]
  simp only [List.getElem?_eq_none hk]
end Pl
/-- A demand's cells as far as the releases have been looked at. -/
def dmC (u : Pl.Uni) (d : Pl.Need) (i : Nat) : List Value := [.int .i64 d.pk, .bool (Pl.hasTo u d i 0), .bool (Pl.hasTo u d i 1), .bool (Pl.hasTo u d i 2), .bool (Pl.hasTo u d i 3)]
theorem dmC_set {u : Pl.Uni} {d : Pl.Need} {k : Nat} (hk : k < 4) : (dmC u d k).set (1 + k) (.bool (Pl.hasAt u d k)) = dmC u d (k + 1) := by
  have h : k = 0 ∨ k = 1 ∨ k = 2 ∨ k = 3 := by omega
  rcases h with rfl | rfl | rfl | rfl <;> simp [dmC, Pl.hasTo]
theorem dmC_at {u : Pl.Uni} {d : Pl.Need} {k i : Nat} (hk : k < 4) : ∃ b, (dmC u d i)[1 + k]? = some (.bool b) := by
  have h : k = 0 ∨ k = 1 ∨ k = 2 ∨ k = 3 := by omega
  rcases h with rfl | rfl | rfl | rfl <;> exact ⟨_, rfl⟩
theorem dmC_z (u : Pl.Uni) (d : Pl.Need) : dmC u d 0 = [.int .i64 d.pk, .bool false, .bool false, .bool false, .bool false] := by unfold dmC; rw [Pl.hasTo_z, Pl.hasTo_z, Pl.hasTo_z, Pl.hasTo_z]
theorem dmC_end {u : Pl.Uni} {d : Pl.Need} {n : Nat} (h : ∀ j, n ≤ j → Pl.hasAt u d j = false) : dmC u d n = [.int .i64 d.pk, .bool (Pl.hasAt u d 0), .bool (Pl.hasAt u d 1), .bool (Pl.hasAt u d 2), .bool (Pl.hasAt u d 3)] := by
  unfold dmC
  rw [Pl.hasTo_end h, Pl.hasTo_end h, Pl.hasTo_end h, Pl.hasTo_end h]
/-- Where the look at one need stands. -/
def DemInv (wr : World) (u : Pl.Uni) (x : Pl.Need) (pn : Nat) (a1 : Option Addr) (c1 m : Nat) (wv : World) : Prop :=
  Bk wv wr.heap.size [.int .i64 pn, .slice a1 x.rg.length c1] ∧ Bk wv (wr.heap.size + 1) (dmC u x m) ∧ Below wr.heap.size wr wv ∧ wr.heap.size + 2 ≤ wv.heap.size

set_option maxRecDepth 100000 in
set_option maxHeartbeats 8000000 in
theorem demands_any (u : Pl.Uni) (l : List Pl.Need) (a b : Option Addr) (c d : Nat) (w : World) (h1 : UIn w u a c) (h2 : NsIn w l b d) (ok : Pl.UniOk u) (okl : Pl.NeedsOk u.length l) :
    Calls Tryz.prog 37 #[.agg #[.slice a u.length c], .slice b l.length d] w fun e w' => ∃ o k, e = .returned (.slice o l.length k) ∧ LQ 5 (Pd u) w' (fun g => w.heap.size ≤ g) l o k ∧ Below w.heap.size w w' := by
  have H := Lib.hid h1
  have K := Lib.hid h2
  have OK := Lib.hid ok
  have OKL := Lib.hid okl
  have hm1 := h1.len
  have hm2 := h2.len
  have hn4 := okl.len
  clear h1 h2 ok okl
  go_enter Tryz.func37, Tryz.ntmps37
  go_wp2_with fail
  go_loopw [5, 13] (fun v i wr => ∃ k : Nat, k ≤ l.length ∧ i = .int .i64 k ∧ (∃ o c', v = .slice o k c' ∧ GOwn 92 5 (Pd u) wr (w.heap.size + 1) (fun _ => False) (l.take k) (.slice o k c') k) ∧ Below (w.heap.size + 1) (w.alloc (.cells #[.slice a u.length c] 24)) wr) (fun _ i _ => l.length - (intOf i).toNat)
  case atStart => exact ⟨0, Nat.zero_le _, rfl, ⟨none, 0, rfl, GOwn.nil _ _ _⟩, Below.refl _ _⟩
  case round =>
    obtain ⟨k, hk, rfl, ⟨o, c', rfl, OW⟩, hb⟩ := hrel
    obtain ⟨v0, rfl⟩ : ∃ W, W = wr := ⟨_, rfl⟩
    have B1 : Below w.heap.size w v0 := bcall (by go_grown) hb (by simp)
    have s1 : w.heap.size ≤ v0.heap.size := B1.size
    have HB := hb
    have q0 : w.heap.size + 1 ≤ v0.heap.size := by have z := hb.size; simp at z; omega
    have X : Bk v0 w.heap.size [.slice a u.length c] := (Bk.new (cs := [.slice a u.length c]) _ _ rfl).below hb (by simp)
    clear hb
    by_cases hlt2 : k < l.length
    · have ty : decide ((k : Int) < (l.length : Int)) = true := decT (by omega)
      have tz : decide (k < l.length) = true := decT (by omega)
      obtain ⟨bb, off, rfl, hltb, hat⟩ := (K.out.below B1 (Nat.le_refl _)).at (by omega)
      obtain ⟨a1, c1, e0, e1, G⟩ := hat k hlt2
      replace G := Lib.hid G
      have DP := OKL.out.pk _ (List.getElem_mem hlt2)
      have DR := Lib.hid (Pl.rng_okx (OKL.out.rg _ (List.getElem_mem hlt2)))
      have TK := Lib.hid (List.take_succ_eq_append_getElem hlt2)
      clear hat
      generalize l[k] = x at *
      obtain ⟨pn, hpn⟩ : ∃ pn : Nat, x.pk = pn := ⟨x.pk.toNat, by omega⟩
      have pL : pn < u.length := by omega
      have pL2 : decide ((pn : Int) < (u.length : Int)) = true := decT (by omega)
      obtain ⟨bu, offu, rfl, hltu, hatu⟩ := (H.out.below B1 (Nat.le_refl _)).at (by omega)
      obtain ⟨a2, c2, j0, RS⟩ := hatu pn pL
      replace RS := Lib.hid RS
      have RO := Lib.hid (OK.out.rels _ (List.getElem_mem pL))
      have HAI := Lib.hid (fun (k : Nat) (hk : k < u[pn].length) => Pl.hasAt_in (d := x) hpn pL hk)
      have HAO := Lib.hid (Pl.hasAt_out (d := x) hpn pL)
      have hl4 := RO.out.len
      have HPN := Lib.hid hpn
      rw [hpn] at e0
      clear hatu DP hpn
      generalize u[pn] = pl at *
      obtain ⟨X_c, X_f, X_l⟩ := id X
      go_wp2_with fail
      have hW0 : Below v0.heap.size v0 ((v0.alloc (.cells #[.int .i64 (pn : Int), .slice a1 x.rg.length c1] 46)).alloc (.cells #[.int .i64 (pn : Int), .bool false, .bool false, .bool false, .bool false] 92)) := by go_grown
      have B2 : Below w.heap.size w ((v0.alloc (.cells #[.int .i64 (pn : Int), .slice a1 x.rg.length c1] 46)).alloc (.cells #[.int .i64 (pn : Int), .bool false, .bool false, .bool false, .bool false] 92)) := by go_grown
      have q2 : v0.heap.size + 2 ≤ ((v0.alloc (.cells #[.int .i64 (pn : Int), .slice a1 x.rg.length c1] 46)).alloc (.cells #[.int .i64 (pn : Int), .bool false, .bool false, .bool false, .bool false] 92)).heap.size := by simp only [World.size_alloc]; omega
      replace X := ((X.alloc (.cells #[.int .i64 (pn : Int), .slice a1 x.rg.length c1] 46)).alloc (.cells #[.int .i64 (pn : Int), .bool false, .bool false, .bool false, .bool false] 92))
      have Y := ((Bk.new (r := v0.heap.size) (cs := [.int .i64 (pn : Int), .slice a1 x.rg.length c1]) v0 46 (by simp)).alloc (.cells #[.int .i64 (pn : Int), .bool false, .bool false, .bool false, .bool false] 92))
      have Z := (Bk.new (r := v0.heap.size + 1) (cs := [.int .i64 (pn : Int), .bool false, .bool false, .bool false, .bool false]) (v0.alloc (.cells #[.int .i64 (pn : Int), .slice a1 x.rg.length c1] 46)) 92 (by simp))
      clear X_c X_f X_l
      generalize ((v0.alloc (.cells #[.int .i64 (pn : Int), .slice a1 x.rg.length c1] 46)).alloc (.cells #[.int .i64 (pn : Int), .bool false, .bool false, .bool false, .bool false] 92)) = w2 at *
      have s2 : w.heap.size ≤ w2.heap.size := B2.size
      obtain ⟨X_c, X_f, X_l⟩ := id X
      obtain ⟨Y_c, Y_f, Y_l⟩ := id Y
      obtain ⟨Z_c, Z_f, Z_l⟩ := id Z
      clear X_c X_f X_l Y_c Y_f Y_l Z_c Z_f Z_l
      have Z0 : Bk w2 (v0.heap.size + 1) (dmC u x 0) := by rw [dmC_z, HPN.out]; exact Z
      have q2' : v0.heap.size + 2 ≤ w2.heap.size := by omega
      go_loopw [27] (fun j wv => ∃ m : Nat, m ≤ pl.length ∧ j = .int .i64 m ∧ DemInv v0 u x pn a1 c1 m wv) (fun j _ => pl.length - (intOf j).toNat)
      case atStart => exact ⟨0, Nat.zero_le _, rfl, Y, Z0, hW0, q2'⟩
      case round =>
        obtain ⟨m, hm, rfl, hinv⟩ := hrel
        clear Y Z Z0 hW0 q2 q2' B2 s2 X
        obtain ⟨Y, Z, BV, qv⟩ := hinv
        have B2 : Below w.heap.size w wr := bcall B1 BV (by omega)
        have s2 : w.heap.size ≤ wr.heap.size := B2.size
        by_cases hlt3 : m < pl.length
        · have t6 : decide ((m : Int) < (pl.length : Int)) = true := decT (by omega)
          have t7 : decide (m < pl.length) = true := decT (by omega)
          have m4 : m < 4 := by omega
          have m5 : (m : Int) < 4 := by omega
          obtain ⟨br, offr, rfl, hltr, hatr⟩ := RS.out.at (by omega)
          obtain ⟨a3, c3, a4, c4, I⟩ := hatr m hlt3
          obtain ⟨f0, f1, f2, f3, f4, V, -⟩ := I.below BV hltr (Nat.le_refl _)
          replace V := Lib.hid V
          have OV := Lib.hid (RO.out.v _ (List.getElem_mem hlt3))
          have HAM := Lib.hid (HAI.out m hlt3)
          clear hatr I
          generalize pl[m] = rl at *
          obtain ⟨bz, hbz⟩ := dmC_at (u := u) (d := x) (i := m) m4
          obtain ⟨Y_c, Y_f, Y_l⟩ := id Y
          go_wp2_with fail
          refine (rngHas_any x.rg rl.v a1 a3 c1 c3 _ (G.out.below (by go_grown) (Nat.le_refl _)) (V.out.below (by go_grown) (Nat.le_refl _)) DR.out OV.out).mono ?_
          rintro e w3 ⟨rfl, hb⟩
          rw [← HAM.out]
          have hW : Below v0.heap.size v0 w3 := bcall (by go_grown) hb (by go_size)
          have B3 : Below w.heap.size w w3 := bcall (by go_grown) hb (by go_size)
          have q3 : wr.heap.size + 1 ≤ w3.heap.size := by have z := hb.size; (try simp only [World.size_alloc] at z); omega
          replace V := Lib.hid ((V.out.below (Below.refl _ _ |>.alloc (Nat.le_refl _) _) (Nat.le_refl _)).below hb (Nat.le_refl _))
          replace Y := ((Y.alloc _)).below hb (by go_size)
          replace Z := ((Z.alloc _)).below hb (by go_size)
          have V0 := ((Bk.new (r := wr.heap.size) (cs := [.int .i64 rl.v.maj, .int .i64 rl.v.min, .int .i64 rl.v.pat, .slice a3 rl.v.pre.length c3, .slice a4 rl.ns.length c4]) _ 52 (by simp))).below hb (by go_size)
          clear hb
          have s3 : w.heap.size ≤ w3.heap.size := B3.size
          clear Y_c Y_f Y_l
          obtain ⟨Y_c, Y_f, Y_l⟩ := id Y
          obtain ⟨Z_c, Z_f, Z_l⟩ := id Z
          obtain ⟨V0_c, V0_f, V0_l⟩ := id V0
          have zc := Z.c (1 + m) hbz
          have zf := Z.f (1 + m)
          clear f0 f1 f2 f3 f4 Z_c
          go_wp2_with fail
          go_roundw
          case rel => exact ⟨m + 1, hlt3, by go_num, Y.far (a := ⟨v0.heap.size + 1, 1 + m, none⟩) (by dsimp only; omega) _, by rw [← dmC_set m4]; exact Z.set (k := 1 + m) (by simp [dmC]; omega) _, by go_grown, by simp; omega⟩
          case measure => simp [intOf]; omega
        · have t6 : decide ((m : Int) < (pl.length : Int)) = false := decF (by omega)
          have t7 : decide (m < pl.length) = false := decF (by omega)
          have em : m = pl.length := by omega
          subst em
          rw [dmC_end HAO.out, HPN.out] at Z
          replace OW := OW.below (cloD u) BV (Nat.le_refl _)
          have PD : Pd u wr (fun b => False ∧ some b ≠ (Value.slice o k c').ownBlock) x [.int .i64 (pn : Int), .bool (Pl.hasAt u x 0), .bool (Pl.hasAt u x 1), .bool (Pl.hasAt u x 2), .bool (Pl.hasAt u x 3)] := by unfold Pd; rw [HPN.out]
          obtain ⟨Z_c, Z_f, Z_l⟩ := id Z
          have HBV : Below (w.heap.size + 1) _ wr := bcall HB BV (by omega)
          go_wp2_with (at_builtin; go_loud (refine ap1g (cloD u) Tryz.tDem (by rfl) (by rfl) (by rfl) OW (c := 1) (E := [.int .i64 (pn : Int), .bool (Pl.hasAt u x 0), .bool (Pl.hasAt u x 1), .bool (Pl.hasAt u x 2), .bool (Pl.hasAt u x 3)]) (by rfl) PD (by omega) (by omega) ?_); intro v7 w7 NEW hg7 hb7 hs7; have HB7 : Below (w.heap.size + 1) _ w7 := bcall HBV hb7 (by omega); obtain ⟨o7, c7, rfl⟩ := NEW.slice; clear hg7 hb7 OW PD Z_c Z_f Z_l)
          rw [← TK.out] at NEW
          go_roundw
          case rel => exact ⟨k + 1, hlt2, by go_num, ⟨o7, c7, rfl, NEW⟩, HB7⟩
          case measure => simp [intOf]; omega
    · have t5 : decide ((k : Int) < (l.length : Int)) = false := decF (by omega)
      have t6 : decide (k < l.length) = false := decF (by omega)
      have ek : k = l.length := by omega
      subst ek
      rw [List.take_length] at OW
      go_wp2_with fail
      go_ret
      exact ⟨o, c', rfl, OW.lq (cloD u) (by decide) (fun _ h => h.elim) (fun b h _ => by omega), by go_grown⟩
end Go.Proofs.YtgngehfgcogceaaGreatDoor

end
section
/- Contract: a universe and wants with the releases that satisfy each need (solver.open). -/
namespace Go.Proofs.YtgngehfgcogceaaGreatDoor
open Go.RowKit

set_option maxRecDepth 100000 in
theorem Tryz.tD1 : ElemT Tryz.prog 88 60 1 24 := ⟨Tryz.underlying88, ⟨_, _, rfl, rfl, rfl, rfl, rfl⟩, by decide, by decide⟩
set_option maxRecDepth 100000 in
theorem Tryz.tD2 : ElemT Tryz.prog 61 88 1 24 := ⟨Tryz.underlying61, ⟨_, _, rfl, rfl, rfl, rfl, rfl⟩, by decide, by decide⟩
abbrev P1 (u : Pl.Uni) := cellL 5 (Pd u)
abbrev P2 (u : Pl.Uni) := cellL 1 (P1 u)
theorem clo1 (u : Pl.Uni) : Clo 1 (P1 u) := (cloD u).cell (by decide)
theorem clo2 (u : Pl.Uni) : Clo 1 (P2 u) := (clo1 u).cell (by decide)
def Pl.nsOf (l : List Pl.Rel) : List (List Pl.Need) := l.map Pl.Rel.ns
def Pl.nsAll (u : Pl.Uni) : List (List (List Pl.Need)) := u.map Pl.nsOf
theorem Pl.nsOf_len (l : List Pl.Rel) : (Pl.nsOf l).length = l.length := List.length_map ..
theorem Pl.nsAll_len (u : Pl.Uni) : (Pl.nsAll u).length = u.length := List.length_map ..
theorem Pl.nsOf_succ {l : List Pl.Rel} {k : Nat} (h : k < l.length) : (Pl.nsOf l).take (k + 1) = (Pl.nsOf l).take k ++ [l[k].ns] := by
  rw [List.take_succ_eq_append_getElem (by rw [Pl.nsOf_len]; exact h)]
  simp [Pl.nsOf]
theorem Pl.nsAll_succ {u : Pl.Uni} {k : Nat} (h : k < u.length) : (Pl.nsAll u).take (k + 1) = (Pl.nsAll u).take k ++ [Pl.nsOf u[k]] := by
  rw [List.take_succ_eq_append_getElem (by rw [Pl.nsAll_len]; exact h)]
  simp [Pl.nsAll]
/-- A problem, opened, lies in memory from B on. -/
structure ProbIn (w : World) (B : Nat) (u : Pl.Uni) (ws : List Pl.Need) (o1 : Option Addr) (k1 : Nat) (o2 : Option Addr) (k2 : Nat) : Prop where
  ws : LQ 5 (Pd u) w (fun g => B ≤ g) ws o1 k1
  ns : LQ 1 (P2 u) w (fun g => B ≤ g) (Pl.nsAll u) o2 k2
theorem ProbIn.below {w w' : World} {B : Nat} {u : Pl.Uni} {ws : List Pl.Need} {o1 o2 : Option Addr} {k1 k2 : Nat} (h : ProbIn w B u ws o1 k1 o2 k2) {D : Nat} (hb : Below D w w') (hD : w.heap.size ≤ D) : ProbIn w' B u ws o1 k1 o2 k2 :=
  ⟨h.ws.below (cloD u) (by decide) hb hD, h.ns.below (clo2 u) (by decide) hb hD⟩

set_option maxRecDepth 100000 in
set_option maxHeartbeats 8000000 in
theorem open_any (u : Pl.Uni) (l : List Pl.Need) (a b : Option Addr) (c d : Nat) (w : World) (h1 : UIn w u a c) (h2 : NsIn w l b d) (ok : Pl.UniOk u) (okl : Pl.NeedsOk u.length l) :
    Calls Tryz.prog 15 #[.agg #[.slice a u.length c], .slice b l.length d] w fun e w' => ∃ o1 k1 o2 k2, e = .returned (.agg #[.slice o1 l.length k1, .slice o2 u.length k2]) ∧ ProbIn w' w.heap.size u l o1 k1 o2 k2 ∧ Below w.heap.size w w' := by
  have H := Lib.hid h1
  have K := Lib.hid h2
  have OK := Lib.hid ok
  have OKL := Lib.hid okl
  have hm1 := h1.len
  have hu6 := ok.len
  clear h1 h2 ok okl
  go_enter Tryz.func15, Tryz.ntmps15
  have B0 : Below w.heap.size w w := Below.refl _ _
  go_wp2_with fail
  refine (demands_any u l a b c d _ (H.out.below (by go_grown) (Nat.le_refl _)) (K.out.below (by go_grown) (Nat.le_refl _)) OK.out OKL.out).mono ?_
  rintro e w1 ⟨o1, k1, rfl, WL, hb⟩
  replace WL := Lib.hid (WL.mono (cloD u) (by decide) (R := fun g => w.heap.size + 2 ≤ g) fun b h _ => by simp only [World.size_alloc] at h; omega)
  have B1 : Below w.heap.size w w1 := bcall (by go_grown) hb (by go_size)
  have q1 : w.heap.size + 2 ≤ w1.heap.size := by have z := hb.size; (try simp only [World.size_alloc] at z); omega
  replace H := Lib.hid (((H.out.below (Below.refl _ _ |>.alloc (Nat.le_refl _) _) (Nat.le_refl _)).below (Below.refl _ _ |>.alloc (Nat.le_refl _) _) (Nat.le_refl _)).below hb (Nat.le_refl _))
  replace K := Lib.hid (((K.out.below (Below.refl _ _ |>.alloc (Nat.le_refl _) _) (Nat.le_refl _)).below (Below.refl _ _ |>.alloc (Nat.le_refl _) _) (Nat.le_refl _)).below hb (Nat.le_refl _))
  have X := (((Bk.new (r := w.heap.size) (cs := [.slice a u.length c]) _ 24 (by simp)).alloc _)).below hb (by go_size)
  have R := ((Bk.new (r := w.heap.size + 1) (cs := [.slice none 0 0, .slice none 0 0]) _ 63 (by simp))).below hb (by go_size)
  clear hb
  have s1 : w.heap.size ≤ w1.heap.size := B1.size
  obtain ⟨X_c, X_f, X_l⟩ := id X
  obtain ⟨R_c, R_f, R_l⟩ := id R
  clear K
  go_wp2_with fail
  go_loopw [18] (fun i wv => ∃ k : Nat, k ≤ u.length ∧ i = .int .i64 k ∧ (∃ o c', Bk wv w1.heap.size [.slice o1 l.length k1, .slice o k c'] ∧ GOwn 88 1 (P2 u) wv (w1.heap.size + 1) (fun b => w1.heap.size + 1 ≤ b) ((Pl.nsAll u).take k) (.slice o k c') k) ∧ Below w1.heap.size w1 wv ∧ w1.heap.size + 1 ≤ wv.heap.size) (fun i _ => u.length - (intOf i).toNat)
  case atStart => exact ⟨0, Nat.zero_le _, rfl, ⟨none, 0, Bk.new (cs := [.slice o1 l.length k1, .slice none 0 0]) _ _ rfl, GOwn.nil _ _ _⟩, by go_grown, by simp⟩
  case round =>
    obtain ⟨k, hk, rfl, ⟨o, c', PB, OW⟩, BW, qw⟩ := hrel
    obtain ⟨v0, rfl⟩ : ∃ W, W = wr := ⟨_, rfl⟩
    clear X_c X_f X_l R_c R_f R_l
    replace X := X.below BW (by omega)
    replace R := R.below BW (by omega)
    have B2 : Below w.heap.size w v0 := bcall B1 BW (by omega)
    have s2 : w.heap.size ≤ v0.heap.size := B2.size
    obtain ⟨X_c, X_f, X_l⟩ := id X
    obtain ⟨PB_c, PB_f, PB_l⟩ := id PB
    by_cases hlt2 : k < u.length
    · have ty : decide ((k : Int) < (u.length : Int)) = true := decT (by omega)
      have tz : decide (k < u.length) = true := decT (by omega)
      obtain ⟨bu, offu, rfl, hltu, hatu⟩ := (H.out.below BW (Nat.le_refl _)).at (by omega)
      obtain ⟨a2, c2, j0, RS⟩ := hatu k hlt2
      replace RS := Lib.hid RS
      have RO := Lib.hid (OK.out.rels _ (List.getElem_mem hlt2))
      have hl4 := RO.out.len
      have TK := Lib.hid (Pl.nsAll_succ hlt2)
      have hul : (u.length : Int) ≤ 6 := by omega
      clear hatu
      generalize u[k] = pl at *
      go_wp2_with fail
      clear j0
      go_loopw [8, 24] (fun v j wv => ∃ m : Nat, m ≤ pl.length ∧ j = .int .i64 m ∧ (∃ ov cv, v = .slice ov m cv ∧ GOwn 60 1 (P1 u) wv v0.heap.size (fun b => v0.heap.size ≤ b) ((Pl.nsOf pl).take m) (.slice ov m cv) m) ∧ Below v0.heap.size v0 wv) (fun _ j _ => pl.length - (intOf j).toNat)
      case atStart => exact ⟨0, Nat.zero_le _, rfl, ⟨none, 0, rfl, GOwn.nil _ _ _⟩, Below.refl _ _⟩
      case round =>
        obtain ⟨m, hm, rfl, ⟨ov, cv, rfl, IW⟩, BV⟩ := hrel
        have qv := BV.size
        clear X_c X_f X_l PB_c PB_f PB_l
        replace X := X.below BV (by omega)
        replace PB := PB.below BV (by omega)
        have B3 : Below w.heap.size w wr := bcall B2 BV (by omega)
        have s3 : w.heap.size ≤ wr.heap.size := B3.size
        have B31 : Below w1.heap.size w1 wr := bcall BW BV (by omega)
        obtain ⟨X_c, X_f, X_l⟩ := id X
        obtain ⟨PB_c, PB_f, PB_l⟩ := id PB
        by_cases hlt3 : m < pl.length
        · have t6 : decide ((m : Int) < (pl.length : Int)) = true := decT (by omega)
          have t7 : decide (m < pl.length) = true := decT (by omega)
          obtain ⟨br, offr, rfl, hltr, hatr⟩ := RS.out.at (by omega)
          obtain ⟨a3, c3, a4, c4, I⟩ := hatr m hlt3
          obtain ⟨f0, f1, f2, f3, f4, -, N⟩ := I.below BV hltr (Nat.le_refl _)
          replace N := Lib.hid N
          have ON := Lib.hid (RO.out.ns _ (List.getElem_mem hlt3))
          have TM := Lib.hid (Pl.nsOf_succ hlt3)
          clear hatr I PB_c PB_f PB_l
          generalize pl[m] = rl at *
          have hiw := IW.lt
          go_wp2_with fail
          refine (demands_any u rl.ns _ a4 c c4 _ (H.out.below (by go_grown) (Nat.le_refl _)) (N.out.below (by go_grown) (Nat.le_refl _)) OK.out ON.out).mono ?_
          rintro e w4 ⟨o4, k4, rfl, D4, hb⟩
          have IW4 := (IW.alloc (clo1 u) _).below (clo1 u) hb (Nat.le_refl _)
          have BV4 : Below v0.heap.size v0 w4 := bcall (by go_grown) hb (by simp; omega)
          have PE : P1 u w4 (fun b => v0.heap.size ≤ b ∧ some b ≠ (Value.slice ov m cv).ownBlock) rl.ns [.slice o4 rl.ns.length k4] := ⟨o4, k4, rfl, D4.mono (cloD u) (by decide) fun b h _ => ⟨by simp at h; omega, fun e => by have := hiw b e.symm; simp at h; omega⟩⟩
          have q4 : v0.heap.size ≤ w4.heap.size := BV4.size
          clear f0 f1 f2 f3 f4 X_c X_f X_l D4 hb IW
          go_wp2_with (at_builtin; go_loud (refine ap1g (clo1 u) Tryz.tD1 (by rfl) (by rfl) (by rfl) IW4 (c := 1) (E := [.slice o4 rl.ns.length k4]) (by rfl) PE (by omega) (by omega) ?_); intro v7 w7 NEW hg7 hb7 hs7; have HB7 : Below v0.heap.size v0 w7 := bcall BV4 hb7 (by omega); obtain ⟨o7, c7, rfl⟩ := NEW.slice; clear hg7 hb7 IW4 PE)
          rw [← TM.out] at NEW
          go_roundw
          case rel => exact ⟨m + 1, hlt3, by go_num, ⟨o7, c7, rfl, NEW⟩, HB7⟩
          case measure => simp [intOf]; omega
        · have t6 : decide ((m : Int) < (pl.length : Int)) = false := decF (by omega)
          have t7 : decide (m < pl.length) = false := decF (by omega)
          have em : m = pl.length := by omega
          subst em
          rw [List.take_of_length_le (by rw [Pl.nsOf_len]; exact Nat.le_refl _)] at IW
          have how := OW.lt
          replace OW := OW.below (clo2 u) BV (Nat.le_refl _)
          have PE : P2 u wr (fun b => w1.heap.size + 1 ≤ b ∧ some b ≠ (Value.slice o k c').ownBlock) (Pl.nsOf pl) [.slice ov pl.length cv] := ⟨ov, cv, by rw [Pl.nsOf_len], IW.lq (clo1 u) (by decide) (fun b h _ => ⟨by omega, fun e => by have := how b e.symm; omega⟩) (fun b h _ => ⟨by omega, fun e => by have := how b e.symm; omega⟩)⟩
          go_wp2_with (at_builtin; go_loud (refine ap1g (clo2 u) Tryz.tD2 (by rfl) (by rfl) (by rfl) OW (c := 1) (E := [.slice ov pl.length cv]) (by rfl) PE (by omega) (by omega) ?_); intro v7 w7 NEW hg7 hb7 hs7; have hq7 := hg7.size; have HB7 : Below w1.heap.size w1 w7 := bcall B31 hb7 (by omega); replace PB := PB.grown hg7 (fun g hg => by have := how g hg; omega); obtain ⟨o7, c7, rfl⟩ := NEW.slice; clear hg7 hb7 OW PE X_c X_f X_l PB_c PB_f PB_l; obtain ⟨PB_c, PB_f, PB_l⟩ := id PB)
          rw [← TK.out] at NEW
          go_roundw
          case rel => exact ⟨k + 1, hlt2, by go_num, ⟨o7, c7, PB.set (k := 1) (by simp) _, NEW.far (clo2 u) (by omega) (by omega) _⟩, by go_grown, by simp; omega⟩
          case measure => simp [intOf]; omega
    · have t5 : decide ((k : Int) < (u.length : Int)) = false := decF (by omega)
      have t6 : decide (k < u.length) = false := decF (by omega)
      have ek : k = u.length := by omega
      subst ek
      rw [List.take_of_length_le (by rw [Pl.nsAll_len]; exact Nat.le_refl _)] at OW
      obtain ⟨R_c, R_f, R_l⟩ := id R
      go_wp2_with fail
      have RN := (R.set (k := 0) (by simp) (.slice o1 l.length k1)).set (k := 1) (by simp) (.slice o u.length c')
      obtain ⟨RN_c, RN_f, RN_l⟩ := RN
      have NS := (OW.lq (clo2 u) (by decide) (Q := fun g => w.heap.size + 2 ≤ g) (fun b h _ => by omega) (fun b h _ => by omega))
      have WS := WL.out.below (cloD u) (by decide) BW (Nat.le_refl _)
      refine bodyPost_ret (v := .agg #[.slice o1 l.length k1, .slice o u.length c']) (by simp [results, Tryz.results15, go_sem, RN_c]) rfl ⟨o1, k1, o, c', rfl, ⟨?_, ?_⟩, by go_grown⟩
      · exact ((WS.grown (cloD u) (by decide) (grown_setCell _ _ 0 _) (fun b h e => by cases e; omega)).grown (cloD u) (by decide) (grown_setCell _ _ 1 _) (fun b h e => by cases e; omega)).mono (cloD u) (by decide) fun b h _ => by omega
      · exact ((NS.grown (clo2 u) (by decide) (grown_setCell _ _ 0 _) (fun b h e => by cases e; omega)).grown (clo2 u) (by decide) (grown_setCell _ _ 1 _) (fun b h e => by cases e; omega)).mono (clo2 u) (by decide) fun b h _ => by omega
end Go.Proofs.YtgngehfgcogceaaGreatDoor

end
section
/- The search for the best solution in plain words: selections in order, the first solution is the greatest one. No program in sight. -/
namespace Go.Proofs.YtgngehfgcogceaaGreatDoor
namespace Pl

/-- From the last release down to none: s - 1, .., 0, -1. -/
def downs (s : Nat) : List Int := (List.range (s + 1)).map fun (j : Nat) => (s : Int) - 1 - (j : Int)
/-- All selections, the greatest first. -/
def allSel : List Nat → List (List Int)
  | [] => [[]]
  | s :: r => (downs s).flatMap fun n => (allSel r).map (n :: ·)
def sizes (u : Uni) : List Nat := u.map List.length
def best (u : Uni) (ws : List Need) : Option (List Int) := (allSel (sizes u)).find? (solB u ws)

theorem mem_downs {s : Nat} {n : Int} : n ∈ downs s ↔ -1 ≤ n ∧ n < (s : Int) := by
  unfold downs
  rw [List.mem_map]
  constructor
  · rintro ⟨j, hj, rfl⟩
    have := List.mem_range.1 hj
    omega
  · intro h
    exact ⟨((s : Int) - 1 - n).toNat, List.mem_range.2 (by omega), by omega⟩
theorem mem_allSel : ∀ {ss : List Nat} {l : List Int}, l ∈ allSel ss ↔ l.length = ss.length ∧ ∀ k (h : k < l.length) (g : k < ss.length), -1 ≤ l[k] ∧ l[k] < (ss[k] : Int)
  | [], l => by
    unfold allSel
    rw [List.mem_singleton]
    refine ⟨fun h => by subst h; exact ⟨rfl, fun k h => absurd h (by simp)⟩, fun h => List.length_eq_zero_iff.1 h.1⟩
  | s :: ss, l => by
    unfold allSel
    rw [List.mem_flatMap]
    constructor
    · rintro ⟨n, hn, hl⟩
      obtain ⟨t, ht, rfl⟩ := List.mem_map.1 hl
      obtain ⟨h1, h2⟩ := (mem_allSel (ss := ss)).1 ht
      refine ⟨by simp [h1], fun k h g => ?_⟩
      cases k with
      | zero => exact mem_downs.1 hn
      | succ k => exact h2 k (by simpa using h) (by simpa using g)
    · rintro ⟨h1, h2⟩
      cases l with
      | nil => simp at h1
      | cons n t =>
        refine ⟨n, mem_downs.2 (h2 0 (by simp) (by simp)), List.mem_map.2 ⟨t, mem_allSel.2 ⟨by simpa using h1, fun k h g => ?_⟩, rfl⟩⟩
        exact h2 (k + 1) (by simpa using h) (by simpa using g)
theorem mem_sel {u : Uni} {l : List Int} : l ∈ allSel (sizes u) ↔ ChOk u l := by
  rw [mem_allSel]
  unfold sizes
  refine ⟨fun h => ⟨by simpa using h.1, fun k h1 h2 => ?_⟩, fun h => ⟨by simpa using h.len, fun k h1 h2 => ?_⟩⟩
  · have := h.2 k h1 (by simpa using h2)
    simpa using this
  · have := h.at' k h1 (by simpa using h2)
    simpa using this

/-- The first list is less than the second one. -/
def lexLt : List Int → List Int → Bool
  | a :: l, b :: m => if a = b then lexLt l m else decide (a < b)
  | _, _ => false
theorem lexLt_irr : ∀ l, lexLt l l = false
  | [] => rfl
  | a :: l => by unfold lexLt; rw [if_pos rfl]; exact lexLt_irr l
theorem lexLt_asym : ∀ {l m : List Int}, lexLt l m = true → lexLt m l = false
  | [], m, h => by unfold lexLt at h; cases h
  | a :: l, [], h => by unfold lexLt at h; cases h
  | a :: l, b :: m, h => by
    unfold lexLt at h ⊢
    by_cases e : a = b
    · rw [if_pos e] at h; rw [if_pos e.symm]; exact lexLt_asym h
    · rw [if_neg e, decide_eq_true_eq] at h
      rw [if_neg (fun e' => e e'.symm), decide_eq_false_iff_not]; omega
theorem lexLt_tot : ∀ {l m : List Int}, l.length = m.length → lexLt l m = false → lexLt m l = false → l = m
  | [], m, h, _, _ => by
    have : m = [] := List.length_eq_zero_iff.1 h.symm
    exact this.symm
  | a :: l, [], h, _, _ => by simp at h
  | a :: l, b :: m, h, h1, h2 => by
    unfold lexLt at h1 h2
    by_cases e : a = b
    · rw [if_pos e] at h1; rw [if_pos e.symm] at h2
      rw [e, lexLt_tot (by simpa using h) h1 h2]
    · rw [if_neg e, decide_eq_false_iff_not] at h1
      rw [if_neg (fun e' => e e'.symm), decide_eq_false_iff_not] at h2
      omega
theorem downs_desc (s : Nat) : (downs s).Pairwise fun a b => b < a := by
  unfold downs
  rw [List.pairwise_map]
  exact List.Pairwise.imp (fun {a b} h => by omega) (List.pairwise_lt_range (n := s + 1))
theorem allSel_desc : ∀ (ss : List Nat), (allSel ss).Pairwise fun a b => lexLt b a = true
  | [] => by unfold allSel; exact List.pairwise_singleton _ _
  | s :: ss => by
    unfold allSel
    rw [List.pairwise_flatMap]
    refine ⟨fun n _ => ?_, (downs_desc s).imp fun {a b} h => ?_⟩
    · rw [List.pairwise_map]
      exact (allSel_desc ss).imp fun {a b} h => by unfold lexLt; rw [if_pos rfl]; exact h
    · intro x hx y hy
      obtain ⟨t, _, rfl⟩ := List.mem_map.1 hx
      obtain ⟨t', _, rfl⟩ := List.mem_map.1 hy
      unfold lexLt
      rw [if_neg (by omega), decide_eq_true_eq]; exact h
theorem find_first {α : Type} {p : α → Bool} {R : α → α → Prop} : ∀ {l : List α} {x : α}, l.Pairwise R → l.find? p = some x → ∀ y ∈ l, p y = true → y = x ∨ R x y
  | [], x, _, h, _, _, _ => by simp at h
  | a :: l, x, hp, h, y, hy, py => by
    rw [List.pairwise_cons] at hp
    rw [List.find?_cons] at h
    cases e : p a with
    | true =>
      rw [e] at h
      injection h with h
      subst h
      rcases List.mem_cons.1 hy with rfl | hy
      · exact .inl rfl
      · exact .inr (hp.1 y hy)
    | false =>
      rw [e] at h
      rcases List.mem_cons.1 hy with rfl | hy
      · rw [e] at py; cases py
      · exact find_first hp.2 h y hy py
/-- What the best solution is. -/
structure Best (u : Uni) (ws : List Need) (l : List Int) : Prop where
  ok : ChOk u l
  sol : Sol u ws l
  top : ∀ m, ChOk u m → Sol u ws m → lexLt l m = false
theorem ChOk.le6 {u : Uni} {l : List Int} (hu : u.length ≤ 6) (h : ChOk u l) : l.length ≤ 6 := by rw [h.len]; exact hu
theorem best_some {u : Uni} {ws : List Need} {l : List Int} (hu : u.length ≤ 6) : best u ws = some l ↔ Best u ws l := by
  have key : ∀ {x}, best u ws = some x → Best u ws x := fun {x} h => by
    unfold best at h
    have hm := mem_sel.1 (List.mem_of_find?_eq_some h)
    have hs := List.find?_some h
    refine ⟨hm, (solB_iff (hm.le6 hu)).1 hs, fun m ok sol => ?_⟩
    rcases find_first (allSel_desc _) h m (mem_sel.2 ok) ((solB_iff (ok.le6 hu)).2 sol) with rfl | h1
    · exact lexLt_irr _
    · exact lexLt_asym h1
  refine ⟨key, fun h => ?_⟩
  cases e : best u ws with
  | none =>
    unfold best at e
    rw [List.find?_eq_none] at e
    exact absurd ((solB_iff (h.ok.le6 hu)).2 h.sol) (e l (mem_sel.2 h.ok))
  | some x =>
    have hx := key e
    rw [lexLt_tot (by rw [hx.ok.len, h.ok.len]) (hx.top l h.ok h.sol) (h.top x hx.ok hx.sol)]
/-- The search by recursion: the packages ahead are chosen. -/
def srch (sol : List Int → Bool) : List Nat → List Int → Option (List Int)
  | [], pre => if sol pre = true then some pre else none
  | s :: r, pre => (downs s).findSome? fun n => srch sol r (pre ++ [n])
theorem srch_find (sol : List Int → Bool) : ∀ (ss : List Nat) (pre : List Int), srch sol ss pre = ((allSel ss).find? fun t => sol (pre ++ t)).map (pre ++ ·)
  | [], pre => by
    unfold srch allSel
    rw [List.find?_cons, List.append_nil]
    cases sol pre <;> simp
  | s :: ss, pre => by
    unfold srch allSel
    generalize downs s = ns
    induction ns with
    | nil => rfl
    | cons n ns ih =>
      rw [List.findSome?_cons, List.flatMap_cons, List.find?_append, srch_find sol ss (pre ++ [n]), ih, List.find?_map]
      have e : (fun t => sol ((pre ++ [n]) ++ t)) = ((fun t => sol (pre ++ t)) ∘ (n :: ·)) := by funext t; simp
      rw [e]
      cases (allSel ss).find? ((fun t => sol (pre ++ t)) ∘ (n :: ·)) <;> simp
theorem srch_best (u : Uni) (ws : List Need) : srch (solB u ws) (sizes u) [] = best u ws := by
  rw [srch_find]
  unfold best
  simp

end Pl
end Go.Proofs.YtgngehfgcogceaaGreatDoor

end
section
/- The search for what a selection lacks, step by step. No program in sight. -/
namespace Go.Proofs.YtgngehfgcogceaaGreatDoor
namespace Pl
theorem wOut_step (u : Uni) (ch : List Int) (f : Nat) (T : List (List Need)) (l : List Need) (R : List Bool) : wOut u ch (f + 1) (T ++ [l]) R = (match wIn u ch l T R with | none => false | some s => wOut u ch f s.1 s.2) := by
  rw [wOut, List.getLast?_concat, List.dropLast_concat]; rfl
theorem wIn_bad {u : Uni} {ch : List Int} {d : Need} {l : List Need} {T : List (List Need)} {R : List Bool} (h : satB u ch d = false) : wIn u ch (d :: l) T R = none := by
  unfold wIn; rw [if_neg (by rw [h]; decide)]
theorem wIn_old {u : Uni} {ch : List Int} {d : Need} {l : List Need} {T : List (List Need)} {R : List Bool} (h : satB u ch d = true) (hr : R.getD d.at' false = true) : wIn u ch (d :: l) T R = wIn u ch l T R := by
  conv => lhs; unfold wIn
  rw [if_pos h, if_pos hr]
theorem wIn_new {u : Uni} {ch : List Int} {d : Need} {l : List Need} {T : List (List Need)} {R : List Bool} (h : satB u ch d = true) (hr : R.getD d.at' false = false) : wIn u ch (d :: l) T R = wIn u ch l (T ++ [needsAt u ch d.at']) (R.set d.at' true) := by
  conv => lhs; unfold wIn
  rw [if_pos h, if_neg (by rw [hr]; decide)]
theorem numAt_get {ch : List Int} {p : Nat} (h : p < ch.length) : numAt ch p = ch[p] := by
  unfold numAt
  rw [List.getD_eq_getElem?_getD, List.getElem?_eq_getElem h]; rfl
theorem satB_neg {u : Uni} {ch : List Int} {d : Need} {p : Nat} (hp : d.pk = p) (h : p < ch.length) (hx : ch[p] < 0) : satB u ch d = false := by
  have e : d.at' = p := by unfold Need.at'; omega
  unfold satB
  rw [e, numAt_get h, decide_eq_false (by omega)]; rfl
theorem satB_pos {u : Uni} {ch : List Int} {d : Need} {p k : Nat} (hp : d.pk = p) (h : p < ch.length) (hx : ch[p] = k) : satB u ch d = hasAt u d k := by
  have e : d.at' = p := by unfold Need.at'; omega
  unfold satB
  rw [e, numAt_get h, hx, decide_eq_true (by omega), Bool.true_and]; rfl
theorem needsAt_get {u : Uni} {ch : List Int} {p k : Nat} (h : p < ch.length) (hx : ch[p] = k) (hp : p < u.length) (hk : k < u[p].length) : needsAt u ch p = u[p][k].ns := by
  unfold needsAt needsOf
  rw [numAt_get h, hx, if_pos (by omega), List.getElem?_eq_getElem hp]
  simp only [Int.toNat_natCast, List.getElem?_eq_getElem hk]
theorem free_le {R : List Bool} {p : Nat} (h : p < R.length) (e : R.getD p false = false) (T : List (List Need)) (l : List Need) : 2 * free (R.set p true) + (T ++ [l]).length + 1 = 2 * free R + T.length := by
  have := free_set h e
  rw [List.length_append, List.length_singleton]; omega
/-- A search that is under way will end so. -/
def Runs (u : Uni) (ch : List Int) (T : List (List Need)) (R : List Bool) (res : Bool) : Prop := ∃ f, f ≤ 14 ∧ wOut u ch f T R = res ∧ 2 * free R + T.length < f
theorem Runs.start (u : Uni) (ws : List Need) (ch : List Int) : Runs u ch [ws] (List.replicate 6 false) (solB u ws ch) := ⟨14, Nat.le_refl _, rfl, by rw [List.length_singleton]; decide⟩
theorem Runs.done {u : Uni} {ch : List Int} {R : List Bool} {res : Bool} (h : Runs u ch [] R res) : lastB ch R = res := by
  obtain ⟨f, _, h1, h2⟩ := h
  cases f with
  | zero => omega
  | succ f => exact h1
theorem Runs.len {u : Uni} {ch : List Int} {T : List (List Need)} {R : List Bool} {res : Bool} (h : Runs u ch T R res) : 2 * free R + T.length < 14 := by
  obtain ⟨f, h0, _, h2⟩ := h
  omega
/-- .. in the midst of one list. -/
def RunsIn (u : Uni) (ch : List Int) (M : Nat) (l : List Need) (T : List (List Need)) (R : List Bool) (res : Bool) : Prop := ∃ f, f ≤ 14 ∧ M < f ∧ 2 * free R + T.length ≤ M ∧ (match wIn u ch l T R with | none => false | some s => wOut u ch f s.1 s.2) = res
theorem Runs.pop {u : Uni} {ch : List Int} {T : List (List Need)} {l : List Need} {R : List Bool} {res : Bool} (h : Runs u ch (T ++ [l]) R res) : RunsIn u ch (2 * free R + T.length) l T R res := by
  obtain ⟨f, h0, h1, h2⟩ := h
  rw [List.length_append, List.length_singleton] at h2
  cases f with
  | zero => omega
  | succ f => rw [wOut_step] at h1; exact ⟨f, by omega, by omega, Nat.le_refl _, h1⟩
theorem RunsIn.end_ {u : Uni} {ch : List Int} {M : Nat} {T : List (List Need)} {R : List Bool} {res : Bool} (h : RunsIn u ch M [] T R res) : Runs u ch T R res ∧ 2 * free R + T.length ≤ M := by
  obtain ⟨f, h0, h1, h2, h3⟩ := h
  exact ⟨⟨f, h0, h3, by omega⟩, h2⟩
theorem RunsIn.len {u : Uni} {ch : List Int} {M : Nat} {l : List Need} {T : List (List Need)} {R : List Bool} {res : Bool} (h : RunsIn u ch M l T R res) : T.length < 14 := by
  obtain ⟨f, h0, h1, h2, _⟩ := h
  omega
theorem RunsIn.bad {u : Uni} {ch : List Int} {M : Nat} {d : Need} {l : List Need} {T : List (List Need)} {R : List Bool} {res : Bool} (h : RunsIn u ch M (d :: l) T R res) (hs : satB u ch d = false) : res = false := by
  obtain ⟨f, _, _, _, h3⟩ := h
  rw [wIn_bad hs] at h3; exact h3.symm
theorem RunsIn.old {u : Uni} {ch : List Int} {M : Nat} {d : Need} {l : List Need} {T : List (List Need)} {R : List Bool} {res : Bool} (h : RunsIn u ch M (d :: l) T R res) (hs : satB u ch d = true) (hr : R.getD d.at' false = true) : RunsIn u ch M l T R res := by
  obtain ⟨f, h0, h1, h2, h3⟩ := h
  rw [wIn_old hs hr] at h3; exact ⟨f, h0, h1, h2, h3⟩
theorem RunsIn.new {u : Uni} {ch : List Int} {M : Nat} {d : Need} {l : List Need} {T : List (List Need)} {R : List Bool} {res : Bool} (h : RunsIn u ch M (d :: l) T R res) (hs : satB u ch d = true) (hr : R.getD d.at' false = false) (hR : d.at' < R.length) : RunsIn u ch M l (T ++ [needsAt u ch d.at']) (R.set d.at' true) res := by
  obtain ⟨f, h0, h1, h2, h3⟩ := h
  rw [wIn_new hs hr] at h3
  exact ⟨f, h0, h1, by have := free_le hR hr T (needsAt u ch d.at'); omega, h3⟩
/-- The last look: every package that is chosen is reached. -/
theorem lastB_true {ch : List Int} {R : List Bool} (h : ∀ k (hk : k < ch.length), 0 ≤ ch[k] → R.getD k false = true) : lastB ch R = true := by
  rw [lastB_iff]
  intro p hp h0
  rw [numAt_get hp] at h0
  exact h p hp h0
theorem lastB_false {ch : List Int} {R : List Bool} {k : Nat} (hk : k < ch.length) (h0 : 0 ≤ ch[k]) (e : R.getD k false = false) : lastB ch R = false := by
  rw [← Bool.not_eq_true, lastB_iff]
  intro h
  rw [h k hk (by rw [numAt_get hk]; exact h0)] at e; cases e
end Pl
end Go.Proofs.YtgngehfgcogceaaGreatDoor

end
