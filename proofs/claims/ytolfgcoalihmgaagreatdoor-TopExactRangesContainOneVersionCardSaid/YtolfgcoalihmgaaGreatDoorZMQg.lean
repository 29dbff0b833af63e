/- Texts joined. -/
import Derived.Test.YtolfgcoalihmgaaGreatDoorZMOk
import Derived.Test.YtolfgcoalihmgaaGreatDoorZMKo
import Derived.Test.YtolfgcoalihmgaaGreatDoorZMOb
namespace Go.Proofs.YtolfgcoalihmgaaGreatDoor
section
open Go.RowKit
set_option maxRecDepth 100000 in
theorem Tryz.tD1 : ElemT Tryz.prog 160 115 1 24 := ⟨Tryz.underlying160, ⟨_, _, rfl, rfl, rfl, rfl, rfl⟩, by decide, by decide⟩
set_option maxRecDepth 100000 in
theorem Tryz.tD2 : ElemT Tryz.prog 116 160 1 24 := ⟨Tryz.underlying116, ⟨_, _, rfl, rfl, rfl, rfl, rfl⟩, by decide, by decide⟩
abbrev P1 (u : Pl.Uni) := cellL 5 (Pd u)
abbrev P2 (u : Pl.Uni) := cellL 1 (P1 u)
theorem clo1 (u : Pl.Uni) : Clo 1 (P1 u) := (cloD u).cell (by decide)
theorem clo2 (u : Pl.Uni) : Clo 1 (P2 u) := (clo1 u).cell (by decide)
def Pl.nsOf (l : List Pl.Rel) : List (List Pl.Need) := l.map Pl.Rel.ns
def Pl.nsAll (u : Pl.Uni) : List (List (List Pl.Need)) := u.map Pl.nsOf
theorem Pl.nsOf_len (l : List Pl.Rel) : (Pl.nsOf l).length = l.length := List.length_map ..
theorem Pl.nsAll_len (u : Pl.Uni) : (Pl.nsAll u).length = u.length := List.length_map ..
theorem Pl.nsOf_succ {l : List Pl.Rel} {k : Nat} (h : k < l.length) : (Pl.nsOf l).take (k + 1) = (Pl.nsOf l).take k ++ [l[k].ns] := by
 rw [List.take_succ_eq_append_getElem (by rw [Pl.nsOf_len]; exact h)]
 simp [Pl.nsOf]
theorem Pl.nsAll_succ {u : Pl.Uni} {k : Nat} (h : k < u.length) : (Pl.nsAll u).take (k + 1) = (Pl.nsAll u).take k ++ [Pl.nsOf u[k]] := by
 rw [List.take_succ_eq_append_getElem (by rw [Pl.nsAll_len]; exact h)]
 simp [Pl.nsAll]
structure ProbIn (w : World) (B : Nat) (u : Pl.Uni) (ws : List Pl.Need) (o1 : Option Addr) (k1 : Nat) (o2 : Option Addr) (k2 : Nat) : Prop where
 ws : LQ 5 (Pd u) w (fun g => B ≤ g) ws o1 k1
 ns : LQ 1 (P2 u) w (fun g => B ≤ g) (Pl.nsAll u) o2 k2
theorem ProbIn.below {w w' : World} {B : Nat} {u : Pl.Uni} {ws : List Pl.Need} {o1 o2 : Option Addr} {k1 k2 : Nat} (h : ProbIn w B u ws o1 k1 o2 k2) {D : Nat} (hb : Below D w w') (hD : w.heap.size ≤ D) : ProbIn w' B u ws o1 k1 o2 k2 :=
 ⟨h.ws.below (cloD u) (by decide) hb hD, h.ns.below (clo2 u) (by decide) hb hD⟩
theorem ProbIn.bl {w w' : World} {B : Nat} {u : Pl.Uni} {ws : List Pl.Need} {o1 o2 : Option Addr} {k1 k2 : Nat} (h : ProbIn w B u ws o1 k1 o2 k2) (hb : Below w.heap.size w w') : ProbIn w' B u ws o1 k1 o2 k2 := h.below hb nle
theorem ProbIn.al {w : World} {B : Nat} {u : Pl.Uni} {ws : List Pl.Need} {o1 o2 : Option Addr} {k1 k2 : Nat} (h : ProbIn w B u ws o1 k1 o2 k2) (o : Obj) : ProbIn (w.alloc o) B u ws o1 k1 o2 k2 := h.below ((Below.refl _ _).alloc nle o) nle
set_option maxRecDepth 100000 in
set_option maxHeartbeats 8000000 in
theorem open_any (u : Pl.Uni) (l : List Pl.Need) (a b : Option Addr) (c d : Nat) (w : World) (h1 : UIn w u a c) (h2 : NsIn w l b d) (ok : Pl.UniOk u) (okl : Pl.NeedsOk u.length l) :
 Calls Tryz.prog 90 #[.agg #[.slice a u.length c], .slice b l.length d] w fun e w' => ∃ o1 k1 o2 k2, e = .returned (.agg #[.slice o1 l.length k1, .slice o2 u.length k2]) ∧ ProbIn w' w.heap.size u l o1 k1 o2 k2 ∧ Below w.heap.size w w' := by
 have H := Hd h1
 have K := Hd h2
 have OK := Hd ok
 have OKL := Hd okl
 have hm1 := h1.len
 have hu6 := ok.len
 clear h1 h2 ok okl
 go_enter Tryz.func90, Tryz.ntmps90
 have B0 := brl w
 go_wp2_with fail
 refine (demands_any u l a b c d _ (H.out.bl (by go_grown)) (K.out.bl (by go_grown)) OK.out OKL.out).mono ?_
 rintro e w1 ⟨o1, k1, rfl, WL, hb⟩
 replace WL := Hd (WL.mono (cloD u) (by decide) (R := fun g => w.heap.size + 2 ≤ g) fun b h _ => by simp only [World.size_alloc] at h; omega)
 have B1 := bcm w hb
 have q1 : w.heap.size + 2 ≤ w1.heap.size := qle hb
 replace H := Hd (((H.out.al _).al _).bl hb)
 replace K := Hd (((K.out.al _).al _).bl hb)
 have X := (((bkn w.heap.size [.slice a u.length c] 56).alloc _)).bw hb
 have R := ((bkn (w.heap.size + 1) [.slice none 0 0, .slice none 0 0] 118)).bw hb
 clear hb
 have s1 := B1.size
 have ⟨Xc, Xf, Xl⟩ := X
 have ⟨Rc, Rf, Rl⟩ := R
 clear K
 go_wp2_with fail
 go_loopw [18] (fun i wv => ∃ k : Nat, k ≤ u.length ∧ i = .int .i64 k ∧ (∃ o c', Bk wv w1.heap.size [.slice o1 l.length k1, .slice o k c'] ∧ GOwn 160 1 (P2 u) wv (w1.heap.size + 1) (fun b => w1.heap.size + 1 ≤ b) ((Pl.nsAll u).take k) (.slice o k c') k) ∧ Below w1.heap.size w1 wv ∧ w1.heap.size + 1 ≤ wv.heap.size) (fun i _ => u.length - (intOf i).toNat)
 case atStart => exact ⟨0, Nat.zero_le _, rfl, ⟨none, 0, Bk.new (cs := [.slice o1 l.length k1, .slice none 0 0]) _ _ rfl, GOwn.nil _ _ _⟩, by go_grown, by simp⟩
 case round =>
  obtain ⟨k, hk, rfl, ⟨o, c', PB, OW⟩, BW, qw⟩ := hrel
  obtain ⟨v0, rfl⟩ : ∃ W, W = wr := ⟨_, rfl⟩
  clear Xc Xf Xl Rc Rf Rl
  replace X := X.below BW (by omega)
  replace R := R.below BW (by omega)
  have B2 : Below w.heap.size w v0 := bcall B1 BW (by omega)
  have s2 := B2.size
  have ⟨Xc, Xf, Xl⟩ := X
  have ⟨PBc, PBf, PBl⟩ := PB
  by_cases hlt2 : k < u.length
  · have ty : decide ((k : Int) < (u.length : Int)) = true := decT (by omega)
    have tz : decide (k < u.length) = true := decT (by omega)
    obtain ⟨bu, offu, rfl, hltu, hatu⟩ := (H.out.bl BW).at (by omega)
    obtain ⟨a2, c2, j0, RS⟩ := hatu k hlt2
    replace RS := Hd RS
    have RO := Hd (OK.out.rels _ (List.getElem_mem hlt2))
    have hl4 := RO.out.len
    have TK := Hd (Pl.nsAll_succ hlt2)
    have hul : (u.length : Int) ≤ 6 := by omega
    clear hatu
    generalize u[k] = pl at *
    go_wp2_with fail
    clear j0
    go_loopw [8, 24] (fun v j wv => ∃ m : Nat, m ≤ pl.length ∧ j = .int .i64 m ∧ (∃ ov cv, v = .slice ov m cv ∧ GOwn 115 1 (P1 u) wv v0.heap.size (fun b => v0.heap.size ≤ b) ((Pl.nsOf pl).take m) (.slice ov m cv) m) ∧ Below v0.heap.size v0 wv) (fun _ j _ => pl.length - (intOf j).toNat)
    case atStart => exact ⟨0, Nat.zero_le _, rfl, ⟨none, 0, rfl, GOwn.nil _ _ _⟩, Below.refl _ _⟩
    case round =>
     obtain ⟨m, hm, rfl, ⟨ov, cv, rfl, IW⟩, BV⟩ := hrel
     have qv := BV.size
     clear Xc Xf Xl PBc PBf PBl
     replace X := X.below BV (by omega)
     replace PB := PB.below BV (by omega)
     have B3 : Below w.heap.size w wr := bcall B2 BV (by omega)
     have s3 := B3.size
     have B31 : Below w1.heap.size w1 wr := bcall BW BV (by omega)
     have ⟨Xc, Xf, Xl⟩ := X
     have ⟨PBc, PBf, PBl⟩ := PB
     by_cases hlt3 : m < pl.length
     · have t6 : decide ((m : Int) < (pl.length : Int)) = true := decT (by omega)
       have t7 : decide (m < pl.length) = true := decT (by omega)
       obtain ⟨br, offr, rfl, hltr, hatr⟩ := RS.out.at (by omega)
       obtain ⟨a3, c3, a4, c4, I⟩ := hatr m hlt3
       obtain ⟨f0, f1, f2, f3, f4, -, N⟩ := I.below BV hltr nle
       replace N := Hd N
       have ON := Hd (RO.out.ns _ (List.getElem_mem hlt3))
       have TM := Hd (Pl.nsOf_succ hlt3)
       clear hatr I PBc PBf PBl
       generalize pl[m] = rl at *
       have hiw := IW.lt
       go_wp2_with fail
       refine (demands_any u rl.ns _ a4 c c4 _ (H.out.bl (by go_grown)) (N.out.bl (by go_grown)) OK.out ON.out).mono ?_
       rintro e w4 ⟨o4, k4, rfl, D4, hb⟩
       have IW4 := (IW.alloc (clo1 u) _).below (clo1 u) hb nle
       have BV4 : Below v0.heap.size v0 w4 := bcall (by go_grown) hb (by simp; omega)
       have PE : P1 u w4 (fun b => v0.heap.size ≤ b ∧ some b ≠ (Value.slice ov m cv).ownBlock) rl.ns [.slice o4 rl.ns.length k4] := ⟨o4, k4, rfl, D4.mono (cloD u) (by decide) fun b h _ => ⟨by simp at h; omega, fun e => by have := hiw b e.symm; simp at h; omega⟩⟩
       have q4 : v0.heap.size ≤ w4.heap.size := BV4.size
       clear f0 f1 f2 f3 f4 Xc Xf Xl D4 hb IW
       go_wp2_with (at_builtin; go_loud (refine ap1g (clo1 u) Tryz.tD1 (by rfl) (by rfl) (by rfl) IW4 (c := 1) (E := [.slice o4 rl.ns.length k4]) (by rfl) PE (by omega) (by omega) ?_); intro v7 w7 NEW hg7 hb7 hs7; have HB7 : Below v0.heap.size v0 w7 := bcall BV4 hb7 (by omega); obtain ⟨o7, c7, rfl⟩ := NEW.slice; clear hg7 hb7 IW4 PE)
       rw [← TM.out] at NEW
       go_roundw
       case rel => exact ⟨m + 1, hlt3, by go_num, ⟨o7, c7, rfl, NEW⟩, HB7⟩
       case measure => simp [intOf]; omega
     · have t6 : decide ((m : Int) < (pl.length : Int)) = false := decF (by omega)
       have t7 : decide (m < pl.length) = false := decF (by omega)
       have em : m = pl.length := by omega
       subst em
       rw [List.take_of_length_le (by rw [Pl.nsOf_len]; exact nle)] at IW
       have how := OW.lt
       replace OW := OW.below (clo2 u) BV nle
       have PE : P2 u wr (fun b => w1.heap.size + 1 ≤ b ∧ some b ≠ (Value.slice o k c').ownBlock) (Pl.nsOf pl) [.slice ov pl.length cv] := ⟨ov, cv, by rw [Pl.nsOf_len], IW.lq (clo1 u) (by decide) (fun b h _ => ⟨by omega, fun e => by have := how b e.symm; omega⟩) (fun b h _ => ⟨by omega, fun e => by have := how b e.symm; omega⟩)⟩
       go_wp2_with (at_builtin; go_loud (refine ap1g (clo2 u) Tryz.tD2 (by rfl) (by rfl) (by rfl) OW (c := 1) (E := [.slice ov pl.length cv]) (by rfl) PE (by omega) (by omega) ?_); intro v7 w7 NEW hg7 hb7 hs7; have hq7 := hg7.size; have HB7 : Below w1.heap.size w1 w7 := bcall B31 hb7 (by omega); replace PB := PB.grown hg7 (fun g hg => by have := how g hg; omega); obtain ⟨o7, c7, rfl⟩ := NEW.slice; clear hg7 hb7 OW PE Xc Xf Xl PBc PBf PBl; obtain ⟨PBc, PBf, PBl⟩ := id PB)
       rw [← TK.out] at NEW
       go_roundw
       case rel => exact ⟨k + 1, hlt2, by go_num, ⟨o7, c7, PB.st 1 _, NEW.far (clo2 u) (by omega) (by omega) _⟩, by go_grown, by simp; omega⟩
       case measure => simp [intOf]; omega
  · have t5 : decide ((k : Int) < (u.length : Int)) = false := decF (by omega)
    have t6 : decide (k < u.length) = false := decF (by omega)
    have ek : k = u.length := by omega
    subst ek
    rw [List.take_of_length_le (by rw [Pl.nsAll_len]; exact nle)] at OW
    have ⟨Rc, Rf, Rl⟩ := R
    go_wp2_with fail
    have RN := (R.st 0 (.slice o1 l.length k1)).st 1 (.slice o u.length c')
    obtain ⟨RNc, RNf, RNl⟩ := RN
    have NS := (OW.lq (clo2 u) (by decide) (Q := fun g => w.heap.size + 2 ≤ g) (fun b h _ => by omega) (fun b h _ => by omega))
    have WS := WL.out.below (cloD u) (by decide) BW nle
    refine bodyPost_ret (v := .agg #[.slice o1 l.length k1, .slice o u.length c']) (by simp [results, Tryz.results90, go_sem, RNc]) rfl ⟨o1, k1, o, c', rfl, ⟨?_, ?_⟩, by go_grown⟩
    · exact ((WS.grown (cloD u) (by decide) (grown_setCell _ _ 0 _) (fun b h e => by cases e; omega)).grown (cloD u) (by decide) (grown_setCell _ _ 1 _) (fun b h e => by cases e; omega)).mono (cloD u) (by decide) fun b h _ => by omega
    · exact ((NS.grown (clo2 u) (by decide) (grown_setCell _ _ 0 _) (fun b h e => by cases e; omega)).grown (clo2 u) (by decide) (grown_setCell _ _ 1 _) (fun b h e => by cases e; omega)).mono (clo2 u) (by decide) fun b h _ => by omega
end
section
open Go.RowKit
namespace Pl
theorem chosF_at {u : Uni} {ch : List Int} {F : Int × Int} (hn : ch.length = u.length) (h : chosF u ch = F) : ((∀ k, k < ch.length → chosI u ch k = true) → F = (0, 0)) ∧ ∀ k, k < ch.length → chosI u ch k = false → F = (3, -4) := by
 unfold chosF at h
 rw [if_neg (fun e => e hn)] at h
 refine ⟨fun g => by rw [if_pos g] at h; exact h.symm, fun k hk e => ?_⟩
 rw [if_neg (fun g => by rw [g k hk] at e; cases e)] at h
 exact h.symm
theorem chosI_at {u : Uni} {ch : List Int} {k : Nat} (h : k < ch.length) (g : k < u.length) : chosI u ch k = (decide (-1 ≤ ch[k]) && decide (ch[k] < (u[k].length : Int))) := by unfold chosI; rw [dif_pos h, dif_pos g]
theorem upto_succ {p : Nat → Bool} {k : Nat} (h : ∀ j, j < k → p j = true) (e : p k = true) : ∀ j, j < k + 1 → p j = true := fun j hj => by
 by_cases c : j = k
 · subst c; exact e
 · exact h j (by omega)
end Pl
theorem PkAt_len {w : World} {u : Pl.Uni} {a : Option Addr} {c : Nat} (h : UIn w u a c) {k : Nat} (hk : k < u.length) : u[k].length ≤ 9223372036854775807 := by
 obtain ⟨b, off, _, _, hat⟩ := h.at (by omega)
 obtain ⟨a1, c1, I⟩ := hat k hk
 exact I.rs.len
theorem Sl.cellsAt {w : World} {a : Option Addr} {c : Nat} {l : List Int} (h : Sl w a l.length c 1 (intVals l)) (h0 : 0 < l.length) : ∃ b off, a = some ⟨b, off, none⟩ ∧ b < w.heap.size ∧ ∀ k (hk : k < l.length), w.cell? ⟨b, off + k, none⟩ = some (.int .i64 l[k]) := by
 rcases h.mem with h1 | ⟨b, off, e, hlt, hc⟩
 · have := congrArg List.length h1
   rw [intVals_length] at this
   simp at this
   rw [this] at h0; simp at h0
 · exact ⟨b, off, e, hlt, fun k hk => hc k _ (intVals_get l k hk)⟩
set_option maxRecDepth 100000 in
set_option maxHeartbeats 4000000 in
theorem sChos_any (u : Pl.Uni) (ch : List Int) (a b : Option Addr) (c d : Nat) (w : World) (h : UIn w u a c) (h2 : Sl w b ch.length d 1 (intVals ch)) :
 Calls Tryz.prog 89 #[.agg #[.slice a u.length c], .slice b ch.length d] w fun e w' => e = .returned (fltV (Pl.chosF u ch)) ∧ Below w.heap.size w w' := by
 have hm := h.len
 have hm2 := h2.len
 obtain ⟨F, hF⟩ : ∃ F, Pl.chosF u ch = F := ⟨_, rfl⟩
 rw [hF]
 have H := Hd h
 have K := Hd h2
 clear h h2
 by_cases hn : ch.length = u.length
 · have HF := Hd (Pl.chosF_at hn hF)
   have t1 : ((ch.length : Int) == (u.length : Int)) = true := by simp; omega
   have t2 : ((ch.length : Int) != (u.length : Int)) = false := by simp; omega
   have t1' : (ch.length == u.length) = true := by simp; omega
   have t2' : (ch.length != u.length) = false := by simp; omega
   clear hF
   go_enter Tryz.func89, Tryz.ntmps89
   go_wp2_with fail
   go_loopw [16] (fun i wr => ∃ k : Nat, k ≤ ch.length ∧ i = .int .i64 k ∧ Hid (∀ j, j < k → Pl.chosI u ch j = true) ∧ Below (w.heap.size + 2) ((w.alloc (.cells #[.slice a u.length c] 56)).alloc (.cells #[.int .i64 0, .int .i64 0] 27)) wr) (fun i _ => ch.length - (intOf i).toNat)
   case atStart => exact ⟨0, Nat.zero_le _, rfl, Hd (fun _ h => absurd h (by omega)), Below.refl _ _⟩
   case round =>
    obtain ⟨k, hk, rfl, hu, hb⟩ := hrel
    have B1 : Below w.heap.size w wr := bcall (by go_grown) hb (by simp)
    have s1 := B1.size
    have HB := hb
    have q0 : w.heap.size + 2 ≤ wr.heap.size := qle hb
    have X : Bk wr w.heap.size [.slice a u.length c] := ((Bk.new (cs := [.slice a u.length c]) _ _ rfl).alloc _).below hb (by simp)
    have R : Bk wr (w.heap.size + 1) [.int .i64 0, .int .i64 0] := (Bk.new (cs := [.int .i64 0, .int .i64 0]) _ _ (by simp)).below hb (by simp)
    by_cases hlt2 : k < ch.length
    · obtain ⟨b1, off, rfl, hlt, hat⟩ := (H.out.bl B1).at (by omega)
      obtain ⟨a1, c1, I⟩ := hat k (by omega)
      have ⟨e0, _⟩ := I
      clear hat I
      obtain ⟨b2, off2, rfl, hlt3, hat2⟩ := Sl.cellsAt (K.out.bl B1) (by omega)
      have f0 := hat2 k hlt2
      clear hat2
      have tz : decide (k < ch.length) = true := by simp; omega
      have ty : decide ((k : Int) < (ch.length : Int)) = true := by simp; omega
      have kL : k < u.length := by omega
      have HC := Hd (Pl.chosI_at (u := u) hlt2 kL)
      have hl2 : (u[k].length : Int) ≤ 9223372036854775807 := by have := (PkAt_len (H.out.bl B1) kL); omega
      generalize u[k] = l at *
      obtain ⟨x, hx⟩ : ∃ x, ch[k] = x := ⟨_, rfl⟩
      rw [hx] at f0 HC
      clear hx
      by_cases x1 : x < -1
      · have t3 := decide_eq_true x1
        have E := Hd (HF.out.2 k hlt2 (by rw [HC.out]; simp; omega))
        clear x1 HC hu HF
        have ⟨Xc, Xf, Xl⟩ := X
        have ⟨Rc, Rf, Rl⟩ := R
        go_wp2_with fail
        refine bodyPost_ret (v := .agg #[.int .i64 3, .int .i64 (-4)]) (by simp [results, Tryz.results89, go_sem, Rc]) rfl ⟨by rw [E.out], by go_grown⟩
      · have t3 := decide_eq_false x1
        by_cases x2 : (l.length : Int) ≤ x
        · have t4 := decide_eq_true x2
          have E := Hd (HF.out.2 k hlt2 (by rw [HC.out]; simp; omega))
          clear x1 x2 HC hu HF
          have ⟨Xc, Xf, Xl⟩ := X
          have ⟨Rc, Rf, Rl⟩ := R
          go_wp2_with fail
          refine bodyPost_ret (v := .agg #[.int .i64 3, .int .i64 (-4)]) (by simp [results, Tryz.results89, go_sem, Rc]) rfl ⟨by rw [E.out], by go_grown⟩
        · have t4 := decide_eq_false x2
          have E := Hd (Pl.upto_succ hu.out (by rw [HC.out]; simp; omega))
          clear x1 x2 HC hu HF
          have ⟨Xc, Xf, Xl⟩ := X
          have ⟨Rc, Rf, Rl⟩ := R
          go_wp2_with fail
          go_roundw
          case rel => exact ⟨k + 1, hlt2, by go_num, E, HB⟩
          case measure => simp [intOf]; omega
    · have E := Hd (HF.out.1 (fun j hj => hu.out j (by omega)))
      obtain ⟨Xc, Xf, Xl⟩ := X
      obtain ⟨Rc, Rf, Rl⟩ := R
      have t3 : decide ((k : Int) < (ch.length : Int)) = false := by simp; omega
      have t4 : decide (k < ch.length) = false := by simp; omega
      go_wp2_with fail
      refine bodyPost_ret (v := .agg #[.int .i64 0, .int .i64 0]) (by simp [results, Tryz.results89, go_sem, Rc]) rfl ⟨by rw [E.out], by go_grown⟩
 · have E : F = (9, -3) := by rw [← hF]; unfold Pl.chosF; rw [if_pos hn]
   subst E
   have t1 : ((ch.length : Int) == (u.length : Int)) = false := by simp; omega
   have t2 : ((ch.length : Int) != (u.length : Int)) = true := by simp; omega
   have t1' : (ch.length == u.length) = false := by simp; omega
   have t2' : (ch.length != u.length) = true := by simp; omega
   clear hF hn
   go_enter Tryz.func89, Tryz.ntmps89
   go_wp2_with fail
   refine bodyPost_ret (v := .agg #[.int .i64 9, .int .i64 (-3)]) (by simp [results, Tryz.results89, go_sem]) rfl ⟨rfl, by go_grown⟩
set_option maxRecDepth 100000 in
set_option maxHeartbeats 4000000 in
theorem rChos_any (u : Pl.Uni) (ch : List Int) (a b : Option Addr) (c d : Nat) (w : World) (h : UIn w u a c) (h2 : Sl w b ch.length d 1 (intVals ch)) :
 Calls Tryz.prog 40 #[.agg #[.slice a u.length c], .slice b ch.length d] w fun e w' => e = .returned (fltV (Pl.chosF u ch)) ∧ Below w.heap.size w w' := by
 have hm := h.len
 have hm2 := h2.len
 obtain ⟨F, hF⟩ : ∃ F, Pl.chosF u ch = F := ⟨_, rfl⟩
 rw [hF]
 have H := Hd h
 have K := Hd h2
 clear h h2
 by_cases hn : ch.length = u.length
 · have HF := Hd (Pl.chosF_at hn hF)
   have t1 : ((ch.length : Int) == (u.length : Int)) = true := by simp; omega
   have t2 : ((ch.length : Int) != (u.length : Int)) = false := by simp; omega
   have t1' : (ch.length == u.length) = true := by simp; omega
   have t2' : (ch.length != u.length) = false := by simp; omega
   clear hF
   go_enter Tryz.func40, Tryz.ntmps40
   go_wp2_with fail
   go_loopw [5] (fun i wr => ∃ k : Nat, k ≤ ch.length ∧ i = .int .i64 k ∧ Hid (∀ j, j < k → Pl.chosI u ch j = true) ∧ Below (w.heap.size + 2) ((w.alloc (.cells #[.slice a u.length c] 56)).alloc (.cells #[.int .i64 0, .int .i64 0] 27)) wr) (fun i _ => ch.length - (intOf i).toNat)
   case atStart => exact ⟨0, Nat.zero_le _, rfl, Hd (fun _ h => absurd h (by omega)), Below.refl _ _⟩
   case round =>
    obtain ⟨k, hk, rfl, hu, hb⟩ := hrel
    have B1 : Below w.heap.size w wr := bcall (by go_grown) hb (by simp)
    have s1 := B1.size
    have HB := hb
    have q0 : w.heap.size + 2 ≤ wr.heap.size := qle hb
    have X : Bk wr w.heap.size [.slice a u.length c] := ((Bk.new (cs := [.slice a u.length c]) _ _ rfl).alloc _).below hb (by simp)
    have R : Bk wr (w.heap.size + 1) [.int .i64 0, .int .i64 0] := (Bk.new (cs := [.int .i64 0, .int .i64 0]) _ _ (by simp)).below hb (by simp)
    by_cases hlt2 : k < ch.length
    · obtain ⟨b1, off, rfl, hlt, hat⟩ := (H.out.bl B1).at (by omega)
      obtain ⟨a1, c1, I⟩ := hat k (by omega)
      have ⟨e0, _⟩ := I
      clear hat I
      obtain ⟨b2, off2, rfl, hlt3, hat2⟩ := Sl.cellsAt (K.out.bl B1) (by omega)
      have f0 := hat2 k hlt2
      clear hat2
      have tz : decide (k < ch.length) = true := by simp; omega
      have ty : decide ((k : Int) < (ch.length : Int)) = true := by simp; omega
      have kL : k < u.length := by omega
      have HC := Hd (Pl.chosI_at (u := u) hlt2 kL)
      have hl2 : (u[k].length : Int) ≤ 9223372036854775807 := by have := (PkAt_len (H.out.bl B1) kL); omega
      generalize u[k] = l at *
      obtain ⟨x, hx⟩ : ∃ x, ch[k] = x := ⟨_, rfl⟩
      rw [hx] at f0 HC
      clear hx
      by_cases x1 : x < -1
      · have t3 := decide_eq_true x1
        have E := Hd (HF.out.2 k hlt2 (by rw [HC.out]; simp; omega))
        have W1 : IntKind.i64.wrap ((l.length : Int) - 1) = (l.length : Int) - 1 := IntWalk.i64_in _ (by omega)
        have TB : Pl.inB x (-1) ((l.length : Int) - 1) = false := Pl.inB_false.2 (by omega)
        clear x1 HC hu HF
        have ⟨Xc, Xf, Xl⟩ := X
        have ⟨Rc, Rf, Rl⟩ := R
        go_wp2_with fail
        refine wp_region_ord [0, 1, 2, 3, 4, 5, 6, 7, 8, 9, 10, 11, 12] (by kernel_rfl) (by kernel_rfl) ?_
        have B2 : Below w.heap.size w wr.drew := by go_grown
        have q2 : wr.heap.size ≤ wr.drew.heap.size := by simp only [World.size_drew]; omega
        replace X := X.drew
        replace R := R.drew
        replace HB := HB.drew
        replace e0 := (show (wr.drew).cell? ⟨b1, off + k, none⟩ = some (.slice a1 l.length c1) from e0)
        replace f0 := (show (wr.drew).cell? ⟨b2, off2 + k, none⟩ = some (.int .i64 x) from f0)
        replace hbl := (show b1 < (wr.drew).heap.size from hlt)
        replace hbm := (show b2 < (wr.drew).heap.size from hlt3)
        clear Xc Xf Xl Rc Rf Rl
        generalize wr.drew = w2 at *
        have s2 := B2.size
        have ⟨Xc, Xf, Xl⟩ := X
        have ⟨Rc, Rf, Rl⟩ := R
        repeat (first | (refine wpI_rd rfl rfl ?_; go_big_quiet_step (fail); refine wpQuiet_nil ?_) | (refine wpI_skip rfl rfl ?_; try simp only [pts]))
        try simp only [pts]
        refine wpI_call (f := 56) rfl rfl rfl (by simp [go_sem]; rfl) ?_
        refine (rin_any x (-1) ((l.length : Int) - 1) _).mono ?_
        rintro e w3 ⟨rfl, rfl⟩
        rw [TB]
        refine ⟨_, rfl, Below.refl _ _, ?_⟩
        try simp only [pts]
        repeat (first | (refine wpI_rd rfl rfl ?_; go_big_quiet_step (fail); refine wpQuiet_nil ?_) | (refine wpI_skip rfl rfl ?_; try simp only [pts]))
        try simp only [pts]
        refine wpI_nil ?_
        try simp only [pts]
        go_wp2_with fail
        refine (rfault_any 3 (-4) _).mono ?_
        rintro e w3 ⟨rfl, hb⟩
        have B3 := bcm w hb
        have q3 : w2.heap.size ≤ w3.heap.size := qle hb
        replace X := X.bw hb
        replace R := R.bw hb
        clear hb
        have s3 := B3.size
        clear Xc Xf Xl Rc Rf Rl
        have ⟨Xc, Xf, Xl⟩ := X
        have ⟨Rc, Rf, Rl⟩ := R
        go_wp2_with fail
        have RN := ((R.st 0 (.int .i64 3)).st 1 (.int .i64 (-4)))
        obtain ⟨RNc, RNf, RNl⟩ := RN
        refine bodyPost_ret (v := .agg #[.int .i64 3, .int .i64 (-4)]) (by simp [results, Tryz.results40, go_sem, RNc]) rfl ⟨by rw [E.out], by go_grown⟩
      · have t3 := decide_eq_false x1
        by_cases x2 : (l.length : Int) ≤ x
        · have t4 := decide_eq_true x2
          have E := Hd (HF.out.2 k hlt2 (by rw [HC.out]; simp; omega))
          have W1 : IntKind.i64.wrap ((l.length : Int) - 1) = (l.length : Int) - 1 := IntWalk.i64_in _ (by omega)
          have TB : Pl.inB x (-1) ((l.length : Int) - 1) = false := Pl.inB_false.2 (by omega)
          clear x1 x2 HC hu HF
          have ⟨Xc, Xf, Xl⟩ := X
          have ⟨Rc, Rf, Rl⟩ := R
          go_wp2_with fail
          refine wp_region_ord [0, 1, 2, 3, 4, 5, 6, 7, 8, 9, 10, 11, 12] (by kernel_rfl) (by kernel_rfl) ?_
          have B2 : Below w.heap.size w wr.drew := by go_grown
          have q2 : wr.heap.size ≤ wr.drew.heap.size := by simp only [World.size_drew]; omega
          replace X := X.drew
          replace R := R.drew
          replace HB := HB.drew
          replace e0 := (show (wr.drew).cell? ⟨b1, off + k, none⟩ = some (.slice a1 l.length c1) from e0)
          replace f0 := (show (wr.drew).cell? ⟨b2, off2 + k, none⟩ = some (.int .i64 x) from f0)
          replace hbl := (show b1 < (wr.drew).heap.size from hlt)
          replace hbm := (show b2 < (wr.drew).heap.size from hlt3)
          clear Xc Xf Xl Rc Rf Rl
          generalize wr.drew = w2 at *
          have s2 := B2.size
          have ⟨Xc, Xf, Xl⟩ := X
          have ⟨Rc, Rf, Rl⟩ := R
          repeat (first | (refine wpI_rd rfl rfl ?_; go_big_quiet_step (fail); refine wpQuiet_nil ?_) | (refine wpI_skip rfl rfl ?_; try simp only [pts]))
          try simp only [pts]
          refine wpI_call (f := 56) rfl rfl rfl (by simp [go_sem]; rfl) ?_
          refine (rin_any x (-1) ((l.length : Int) - 1) _).mono ?_
          rintro e w3 ⟨rfl, rfl⟩
          rw [TB]
          refine ⟨_, rfl, Below.refl _ _, ?_⟩
          try simp only [pts]
          repeat (first | (refine wpI_rd rfl rfl ?_; go_big_quiet_step (fail); refine wpQuiet_nil ?_) | (refine wpI_skip rfl rfl ?_; try simp only [pts]))
          try simp only [pts]
          refine wpI_nil ?_
          try simp only [pts]
          go_wp2_with fail
          refine (rfault_any 3 (-4) _).mono ?_
          rintro e w3 ⟨rfl, hb⟩
          have B3 := bcm w hb
          have q3 : w2.heap.size ≤ w3.heap.size := qle hb
          replace X := X.bw hb
          replace R := R.bw hb
          clear hb
          have s3 := B3.size
          clear Xc Xf Xl Rc Rf Rl
          have ⟨Xc, Xf, Xl⟩ := X
          have ⟨Rc, Rf, Rl⟩ := R
          go_wp2_with fail
          have RN := ((R.st 0 (.int .i64 3)).st 1 (.int .i64 (-4)))
          obtain ⟨RNc, RNf, RNl⟩ := RN
          refine bodyPost_ret (v := .agg #[.int .i64 3, .int .i64 (-4)]) (by simp [results, Tryz.results40, go_sem, RNc]) rfl ⟨by rw [E.out], by go_grown⟩
        · have t4 := decide_eq_false x2
          have E := Hd (Pl.upto_succ hu.out (by rw [HC.out]; simp; omega))
          have W1 : IntKind.i64.wrap ((l.length : Int) - 1) = (l.length : Int) - 1 := IntWalk.i64_in _ (by omega)
          have TB : Pl.inB x (-1) ((l.length : Int) - 1) = true := Pl.inB_true.2 (by omega)
          clear x1 x2 HC hu HF
          have ⟨Xc, Xf, Xl⟩ := X
          have ⟨Rc, Rf, Rl⟩ := R
          go_wp2_with fail
          refine wp_region_ord [0, 1, 2, 3, 4, 5, 6, 7, 8, 9, 10, 11, 12] (by kernel_rfl) (by kernel_rfl) ?_
          have B2 : Below w.heap.size w wr.drew := by go_grown
          have q2 : wr.heap.size ≤ wr.drew.heap.size := by simp only [World.size_drew]; omega
          replace X := X.drew
          replace R := R.drew
          replace HB := HB.drew
          replace e0 := (show (wr.drew).cell? ⟨b1, off + k, none⟩ = some (.slice a1 l.length c1) from e0)
          replace f0 := (show (wr.drew).cell? ⟨b2, off2 + k, none⟩ = some (.int .i64 x) from f0)
          replace hbl := (show b1 < (wr.drew).heap.size from hlt)
          replace hbm := (show b2 < (wr.drew).heap.size from hlt3)
          clear Xc Xf Xl Rc Rf Rl
          generalize wr.drew = w2 at *
          have s2 := B2.size
          have ⟨Xc, Xf, Xl⟩ := X
          have ⟨Rc, Rf, Rl⟩ := R
          repeat (first | (refine wpI_rd rfl rfl ?_; go_big_quiet_step (fail); refine wpQuiet_nil ?_) | (refine wpI_skip rfl rfl ?_; try simp only [pts]))
          try simp only [pts]
          refine wpI_call (f := 56) rfl rfl rfl (by simp [go_sem]; rfl) ?_
          refine (rin_any x (-1) ((l.length : Int) - 1) _).mono ?_
          rintro e w3 ⟨rfl, rfl⟩
          rw [TB]
          refine ⟨_, rfl, Below.refl _ _, ?_⟩
          try simp only [pts]
          repeat (first | (refine wpI_rd rfl rfl ?_; go_big_quiet_step (fail); refine wpQuiet_nil ?_) | (refine wpI_skip rfl rfl ?_; try simp only [pts]))
          try simp only [pts]
          refine wpI_nil ?_
          try simp only [pts]
          go_wp2_with fail
          go_roundw
          case rel => exact ⟨k + 1, hlt2, by go_num, E, HB⟩
          case measure => simp [intOf]; omega
    · have E := Hd (HF.out.1 (fun j hj => hu.out j (by omega)))
      obtain ⟨Xc, Xf, Xl⟩ := X
      obtain ⟨Rc, Rf, Rl⟩ := R
      have t3 : decide ((k : Int) < (ch.length : Int)) = false := by simp; omega
      have t4 : decide (k < ch.length) = false := by simp; omega
      go_wp2_with fail
      refine bodyPost_ret (v := .agg #[.int .i64 0, .int .i64 0]) (by simp [results, Tryz.results40, go_sem, Rc]) rfl ⟨by rw [E.out], by go_grown⟩
 · have E : F = (9, -3) := by rw [← hF]; unfold Pl.chosF; rw [if_pos hn]
   subst E
   have t1 : ((ch.length : Int) == (u.length : Int)) = false := by simp; omega
   have t2 : ((ch.length : Int) != (u.length : Int)) = true := by simp; omega
   have t1' : (ch.length == u.length) = false := by simp; omega
   have t2' : (ch.length != u.length) = true := by simp; omega
   clear hF hn
   go_enter Tryz.func40, Tryz.ntmps40
   have B0 := brl w
   go_wp2_with fail
   refine (rfault_any 9 (-3) _).mono ?_
   rintro e w1 ⟨rfl, hb⟩
   have B1 := bcm w hb
   have q1 : w.heap.size + 2 ≤ w1.heap.size := qle hb
   have X := (((bkn w.heap.size [.slice a u.length c] 56).alloc _)).bw hb
   have R := ((bkn (w.heap.size + 1) [.int .i64 0, .int .i64 0] 27)).bw hb
   clear hb
   have s1 := B1.size
   have ⟨Xc, Xf, Xl⟩ := X
   have ⟨Rc, Rf, Rl⟩ := R
   go_wp2_with fail
   have RN := ((R.st 0 (.int .i64 9)).st 1 (.int .i64 (-3)))
   obtain ⟨RNc, RNf, RNl⟩ := RN
   refine bodyPost_ret (v := .agg #[.int .i64 9, .int .i64 (-3)]) (by simp [results, Tryz.results40, go_sem, RNc]) rfl ⟨rfl, by go_grown⟩
end
section
namespace Pl
def downs (s : Nat) : List Int := (List.range (s + 1)).map fun (j : Nat) => (s : Int) - 1 - (j : Int)
def allSel : List Nat → List (List Int)
 | [] => [[]]
 | s :: r => (downs s).flatMap fun n => (allSel r).map (n :: ·)
def sizes (u : Uni) : List Nat := u.map List.length
def best (u : Uni) (ws : List Need) : Option (List Int) := (allSel (sizes u)).find? (solB u ws)
theorem mem_downs {s : Nat} {n : Int} : n ∈ downs s ↔ -1 ≤ n ∧ n < (s : Int) := by
 unfold downs
 rw [List.mem_map]
 constructor
 · rintro ⟨j, hj, rfl⟩
   have := List.mem_range.1 hj
   omega
 · intro h
   exact ⟨((s : Int) - 1 - n).toNat, List.mem_range.2 (by omega), by omega⟩
theorem mem_allSel : ∀ {ss : List Nat} {l : List Int}, l ∈ allSel ss ↔ l.length = ss.length ∧ ∀ k (h : k < l.length) (g : k < ss.length), -1 ≤ l[k] ∧ l[k] < (ss[k] : Int)
 | [], l => by
   unfold allSel
   rw [List.mem_singleton]
   refine ⟨fun h => by subst h; exact ⟨rfl, fun k h => absurd h (by simp)⟩, fun h => List.length_eq_zero_iff.1 h.1⟩
 | s :: ss, l => by
   unfold allSel
   rw [List.mem_flatMap]
   constructor
   · rintro ⟨n, hn, hl⟩
     obtain ⟨t, ht, rfl⟩ := List.mem_map.1 hl
     obtain ⟨h1, h2⟩ := (mem_allSel (ss := ss)).1 ht
     refine ⟨by simp [h1], fun k h g => ?_⟩
     cases k with
     | zero => exact mem_downs.1 hn
     | succ k => exact h2 k (by simpa using h) (by simpa using g)
   · rintro ⟨h1, h2⟩
     cases l with
     | nil => simp at h1
     | cons n t =>
       refine ⟨n, mem_downs.2 (h2 0 (by simp) (by simp)), List.mem_map.2 ⟨t, mem_allSel.2 ⟨by simpa using h1, fun k h g => ?_⟩, rfl⟩⟩
       exact h2 (k + 1) (by simpa using h) (by simpa using g)
theorem mem_sel {u : Uni} {l : List Int} : l ∈ allSel (sizes u) ↔ ChOk u l := by
 rw [mem_allSel]
 unfold sizes
 refine ⟨fun h => ⟨by simpa using h.1, fun k h1 h2 => ?_⟩, fun h => ⟨by simpa using h.len, fun k h1 h2 => ?_⟩⟩
 · have := h.2 k h1 (by simpa using h2)
   simpa using this
 · have := h.at' k h1 (by simpa using h2)
   simpa using this
def lexLt : List Int → List Int → Bool
 | a :: l, b :: m => if a = b then lexLt l m else decide (a < b)
 | _, _ => false
theorem lexLt_irr : ∀ l, lexLt l l = false
 | [] => rfl
 | a :: l => by unfold lexLt; rw [if_pos rfl]; exact lexLt_irr l
theorem lexLt_asym : ∀ {l m : List Int}, lexLt l m = true → lexLt m l = false
 | [], m, h => by unfold lexLt at h; cases h
 | a :: l, [], h => by unfold lexLt at h; cases h
 | a :: l, b :: m, h => by
   unfold lexLt at h ⊢
   by_cases e : a = b
   · rw [if_pos e] at h; rw [if_pos e.symm]; exact lexLt_asym h
   · rw [if_neg e, decide_eq_true_eq] at h
     rw [if_neg (fun e' => e e'.symm), decide_eq_false_iff_not]; omega
theorem lexLt_tot : ∀ {l m : List Int}, l.length = m.length → lexLt l m = false → lexLt m l = false → l = m
 | [], m, h, _, _ => by
   have : m = [] := List.length_eq_zero_iff.1 h.symm
   exact this.symm
 | a :: l, [], h, _, _ => by simp at h
 | a :: l, b :: m, h, h1, h2 => by
   unfold lexLt at h1 h2
   by_cases e : a = b
   · rw [if_pos e] at h1; rw [if_pos e.symm] at h2
     rw [e, lexLt_tot (by simpa using h) h1 h2]
   · rw [if_neg e, decide_eq_false_iff_not] at h1
     rw [if_neg (fun e' => e e'.symm), decide_eq_false_iff_not] at h2
     omega
theorem downs_desc (s : Nat) : (downs s).Pairwise fun a b => b < a := by
 unfold downs
 rw [List.pairwise_map]
 exact List.Pairwise.imp (fun {a b} h => by omega) (List.pairwise_lt_range (n := s + 1))
theorem allSel_desc : ∀ (ss : List Nat), (allSel ss).Pairwise fun a b => lexLt b a = true
 | [] => by unfold allSel; exact List.pairwise_singleton _ _
 | s :: ss => by
   unfold allSel
   rw [List.pairwise_flatMap]
   refine ⟨fun n _ => ?_, (downs_desc s).imp fun {a b} h => ?_⟩
   · rw [List.pairwise_map]
     exact (allSel_desc ss).imp fun {a b} h => by unfold lexLt; rw [if_pos rfl]; exact h
   · intro x hx y hy
     obtain ⟨t, _, rfl⟩ := List.mem_map.1 hx
     obtain ⟨t', _, rfl⟩ := List.mem_map.1 hy
     unfold lexLt
     rw [if_neg (by omega), decide_eq_true_eq]; exact h
theorem find_first {α : Type} {p : α → Bool} {R : α → α → Prop} : ∀ {l : List α} {x : α}, l.Pairwise R → l.find? p = some x → ∀ y ∈ l, p y = true → y = x ∨ R x y
 | [], x, _, h, _, _, _ => by simp at h
 | a :: l, x, hp, h, y, hy, py => by
   rw [List.pairwise_cons] at hp
   rw [List.find?_cons] at h
   cases e : p a with
   | true =>
     rw [e] at h
     injection h with h
     subst h
     rcases List.mem_cons.1 hy with rfl | hy
     · exact .inl rfl
     · exact .inr (hp.1 y hy)
   | false =>
     rw [e] at h
     rcases List.mem_cons.1 hy with rfl | hy
     · rw [e] at py; cases py
     · exact find_first hp.2 h y hy py
structure Best (u : Uni) (ws : List Need) (l : List Int) : Prop where
 ok : ChOk u l
 sol : Sol u ws l
 top : ∀ m, ChOk u m → Sol u ws m → lexLt l m = false
theorem ChOk.le6 {u : Uni} {l : List Int} (hu : u.length ≤ 6) (h : ChOk u l) : l.length ≤ 6 := by rw [h.len]; exact hu
theorem best_some {u : Uni} {ws : List Need} {l : List Int} (hu : u.length ≤ 6) : best u ws = some l ↔ Best u ws l := by
 have key : ∀ {x}, best u ws = some x → Best u ws x := fun {x} h => by
  unfold best at h
  have hm := mem_sel.1 (List.mem_of_find?_eq_some h)
  have hs := List.find?_some h
  refine ⟨hm, (solB_iff (hm.le6 hu)).1 hs, fun m ok sol => ?_⟩
  rcases find_first (allSel_desc _) h m (mem_sel.2 ok) ((solB_iff (ok.le6 hu)).2 sol) with rfl | h1
  · exact lexLt_irr _
  · exact lexLt_asym h1
 refine ⟨key, fun h => ?_⟩
 cases e : best u ws with
 | none =>
   unfold best at e
   rw [List.find?_eq_none] at e
   exact absurd ((solB_iff (h.ok.le6 hu)).2 h.sol) (e l (mem_sel.2 h.ok))
 | some x =>
   have hx := key e
   rw [lexLt_tot (by rw [hx.ok.len, h.ok.len]) (hx.top l h.ok h.sol) (h.top x hx.ok hx.sol)]
theorem best_none {u : Uni} {ws : List Need} (hu : u.length ≤ 6) : best u ws = none ↔ ∀ m, ChOk u m → ¬ Sol u ws m := by
 unfold best
 rw [List.find?_eq_none]
 refine ⟨fun h m ok sol => h m (mem_sel.2 ok) ((solB_iff (ok.le6 hu)).2 sol), fun h m hm hs => ?_⟩
 have ok := mem_sel.1 hm
 exact h m ok ((solB_iff (ok.le6 hu)).1 hs)
def srch (sol : List Int → Bool) : List Nat → List Int → Option (List Int)
 | [], pre => if sol pre = true then some pre else none
 | s :: r, pre => (downs s).findSome? fun n => srch sol r (pre ++ [n])
theorem srch_find (sol : List Int → Bool) : ∀ (ss : List Nat) (pre : List Int), srch sol ss pre = ((allSel ss).find? fun t => sol (pre ++ t)).map (pre ++ ·)
 | [], pre => by
   unfold srch allSel
   rw [List.find?_cons, List.append_nil]
   cases sol pre <;> simp
 | s :: ss, pre => by
   unfold srch allSel
   generalize downs s = ns
   induction ns with
   | nil => rfl
   | cons n ns ih =>
     rw [List.findSome?_cons, List.flatMap_cons, List.find?_append, srch_find sol ss (pre ++ [n]), ih, List.find?_map]
     have e : (fun t => sol ((pre ++ [n]) ++ t)) = ((fun t => sol (pre ++ t)) ∘ (n :: ·)) := by funext t; simp
     rw [e]
     cases (allSel ss).find? ((fun t => sol (pre ++ t)) ∘ (n :: ·)) <;> simp
theorem srch_best (u : Uni) (ws : List Need) : srch (solB u ws) (sizes u) [] = best u ws := by
 rw [srch_find]
 unfold best
 simp
def prodS : List Nat → Nat
 | [] => 1
 | s :: r => (s + 1) * prodS r
def decN : List Nat → Nat → List Int
 | [], _ => []
 | s :: r, n => ((s : Int) - 1 - ((n / prodS r % (s + 1) : Nat) : Int)) :: decN r n
theorem prodS_pos : ∀ ss, 0 < prodS ss
 | [] => Nat.one_pos
 | s :: r => Nat.mul_pos (Nat.succ_pos s) (prodS_pos r)
theorem decN_cons (s : Nat) (r : List Nat) (n : Nat) : decN (s :: r) n = ((s : Int) - 1 - ((n / prodS r % (s + 1) : Nat) : Int)) :: decN r n := rfl
theorem prodS_cons (s : Nat) (r : List Nat) : prodS (s :: r) = (s + 1) * prodS r := rfl
theorem flatMap_same {α β : Type} {f g : α → List β} : ∀ {l : List α}, (∀ x ∈ l, f x = g x) → l.flatMap f = l.flatMap g
 | [], _ => rfl
 | a :: l, h => by rw [List.flatMap_cons, List.flatMap_cons, h a List.mem_cons_self, flatMap_same fun x hx => h x (List.mem_cons_of_mem _ hx)]
theorem decN_add : ∀ (ss : List Nat) (q n : Nat), decN ss (q * prodS ss + n) = decN ss n
 | [], _, _ => rfl
 | s :: r, q, n => by
   rw [decN_cons, decN_cons, prodS_cons]
   have e : q * ((s + 1) * prodS r) + n = q * (s + 1) * prodS r + n := by rw [Nat.mul_assoc]
   rw [e, decN_add r]
   have e2 : (q * (s + 1) * prodS r + n) / prodS r = n / prodS r + q * (s + 1) := by
    rw [Nat.add_comm, Nat.add_mul_div_right _ _ (prodS_pos r)]
   rw [e2, Nat.add_mul_mod_self_right]
theorem range_mul (a b : Nat) : List.range (a * b) = (List.range a).flatMap fun q => (List.range b).map (q * b + ·) := by
 induction a with
 | zero => simp
 | succ a ih =>
   rw [Nat.succ_mul, List.range_add, ih, List.range_succ, List.flatMap_append]
   simp
theorem decN_all : ∀ ss, (List.range (prodS ss)).map (decN ss) = allSel ss
 | [] => rfl
 | s :: r => by
   unfold allSel downs
   rw [← decN_all r]
   conv => lhs; rw [show prodS (s :: r) = (s + 1) * prodS r from rfl, range_mul]
   rw [List.map_flatMap, List.flatMap_map]
   refine flatMap_same fun q hq => ?_
   rw [List.map_map, List.map_map]
   refine List.map_congr_left fun m hm => ?_
   have hm' := List.mem_range.1 hm
   have hq' := List.mem_range.1 hq
   show decN (s :: r) (q * prodS r + m) = _ :: decN r m
   rw [decN_cons, decN_add]
   have e2 : (q * prodS r + m) / prodS r = q := by
    rw [Nat.add_comm, Nat.add_mul_div_right _ _ (prodS_pos r), Nat.div_eq_of_lt hm', Nat.zero_add]
   rw [e2, Nat.mod_eq_of_lt hq']
theorem best_range (u : Uni) (ws : List Need) : ((List.range (prodS (sizes u))).map (decN (sizes u))).find? (solB u ws) = best u ws := by
 rw [decN_all]; rfl
end Pl
end
end Go.Proofs.YtolfgcoalihmgaaGreatDoor
