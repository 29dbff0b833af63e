/- The law TopLockedVersionsSatisfyWants: what it computes is true. -/
import Derived.Test.YtgngehfgcogceaaGreatDoorZMQo
import Derived.Test.YtgngehfgcogceaaGreatDoorZMJg
import Derived.Test.YtgngehfgcogceaaGreatDoorZMJj
import Derived.Test.YtgngehfgcogceaaGreatDoorZKr
import Derived.Deep.DeepCutAuto
namespace Go.Proofs.YtgngehfgcogceaaGreatDoor
open Go.RowKit

/-- F is true if one of the first j entries satisfies the want. -/
def Pl.FTo (l : List Pl.Ent) (d : Pl.Need) (j : Nat) (F : Bool) : Prop := ∀ i (h : i < l.length), i < j → l[i].pk = d.pk → Pl.hasB d.rg l[i].ver = true → F = true
theorem Pl.FTo.no {l : List Pl.Ent} {d : Pl.Need} {j : Nat} {F : Bool} (h : Pl.FTo l d j F) {hj : j < l.length} (ne : l[j].pk ≠ d.pk) : Pl.FTo l d (j + 1) F := fun i hi h1 h2 h3 => by
  by_cases e : i < j
  · exact h i hi e h2 h3
  · obtain rfl : i = j := by omega
    exact absurd h2 ne
theorem Pl.FTo.put {l : List Pl.Ent} {d : Pl.Need} {j : Nat} (h : Pl.FTo l d j false) {hj : j < l.length} : Pl.FTo l d (j + 1) (Pl.hasB d.rg l[j].ver) := fun i hi h1 h2 h3 => by
  by_cases e : i < j
  · exact absurd (h i hi e h2 h3) (by decide)
  · obtain rfl : i = j := by omega
    exact h3
theorem Pl.FTo.end {l : List Pl.Ent} {d : Pl.Need} {j : Nat} {F : Bool} (h : Pl.FTo l d j F) (hj : l.length ≤ j) (hx : ∃ x ∈ l, x.pk = d.pk ∧ Pl.hasB d.rg x.ver = true) : F = true := by
  obtain ⟨x, hm, e1, e2⟩ := hx
  obtain ⟨i, hi, rfl⟩ := List.mem_iff_getElem.1 hm
  exact h i hi (by omega) e1 e2
theorem con_good {r : List Pl.Ivl} {v : Pl.Ver} (hr : Pl.rngF r = (0, 0)) (hv : v.Ok) (a p : Option Addr) (c q : Nat) (w : World) (h : RIn w r a c) (h3 : VIn w v p q) :
    Calls Tryz.prog 10 #[.agg #[.slice a r.length c], verV v p q] w fun e w' => e = .returned (.tuple #[.bool (Pl.hasB r v), .agg #[.int .i64 0, .int .i64 0]]) ∧ Below w.heap.size w w' := by
  have h := Contains_any r v a p c q w h h3
  have hc : Pl.conF r v = (0, 0) := by unfold Pl.conF; rw [hr, if_neg (by decide), Pl.Ver.Ok.vr hv, if_neg (by decide)]
  rw [show Pl.conB r v = Pl.hasB r v by unfold Pl.conB; rw [hc, if_neg (by decide)], hc] at h
  exact h
set_option maxRecDepth 100000 in
set_option maxHeartbeats 8000000 in
theorem lokL_a (u : Pl.Uni) (ws : List Pl.Need) (a b : Option Addr) (c d : Nat) (w : World) (h1 : UIn w u a c) (h2 : NsIn w ws b d) (E : Env w) (f1 f2 : Int) (e1 : Pl.wantsF u ws = (f1, f2)) (e2 : Pl.slvR u ws = none) :
    Calls Tryz.prog 3 #[.agg #[.slice a u.length c], .slice b ws.length d] w fun e w' => e = .returned (.bool true) ∧ Below w.heap.size w w' := by
  have CS := Lib.hid (fun (W : World) (g1 : UIn W u a c) (g2 : NsIn W ws b d) => Solve_any u ws a b c d W g1 g2)
  rw [e2, e1] at CS
  unfold RSolve at CS
  simp only [fltV, Option.getD_none, Option.isSome_none, List.length_nil] at CS
  clear e1 e2
  have HS := Lib.hid (fun (W : World) (E : Env W) => kernSelects_any W E)
  have KV := Lib.hid (fun (W : World) (g1 : UIn W u a c) (g2 : NsIn W ws b d) => kernVast_any u ws a b c d W g1 g2)
  have H := Lib.hid h1
  have K := Lib.hid h2
  have HE := Lib.hid E
  clear h1 h2 E
  go_enter Tryz.func3, Tryz.ntmps3
  have B0 : Below w.heap.size w w := Below.refl _ _
  go_wp2_with fail
  refine (HS.out _ (HE.out.below (show Below w.heap.size w _ from by go_grown) (Nat.le_refl _))).mono ?_
  rintro e w1 ⟨rfl, hb⟩
  have B1 : Below w.heap.size w w1 := bcall (by go_grown) hb (by go_size)
  have q1 : w.heap.size + 1 ≤ w1.heap.size := by have z := hb.size; (try simp only [World.size_alloc] at z); omega
  replace H := Lib.hid ((H.out.below (Below.refl _ _ |>.alloc (Nat.le_refl _) _) (Nat.le_refl _)).below hb (Nat.le_refl _))
  replace K := Lib.hid ((K.out.below (Below.refl _ _ |>.alloc (Nat.le_refl _) _) (Nat.le_refl _)).below hb (Nat.le_refl _))
  have X := ((Bk.new (r := w.heap.size) (cs := [.slice a u.length c]) _ 24 (by simp))).below hb (by go_size)
  clear hb
  have s1 : w.heap.size ≤ w1.heap.size := B1.size
  obtain ⟨X_c, X_f, X_l⟩ := id X
  go_wp2_with fail
  clear HS
  refine (KV.out _ (H.out) (K.out)).mono ?_
  rintro e w2 ⟨⟨g0, rfl⟩, hb⟩
  have B2 : Below w.heap.size w w2 := bcall (by go_grown) hb (by go_size)
  have q2 : w1.heap.size + 0 ≤ w2.heap.size := by have z := hb.size; (try simp only [World.size_alloc, World.size_setCell, World.size_drew] at z); omega
  replace H := Lib.hid (H.out.below hb (Nat.le_refl _))
  replace K := Lib.hid (K.out.below hb (Nat.le_refl _))
  replace X := (X).below hb (by go_size)
  clear hb
  have s2 : w.heap.size ≤ w2.heap.size := B2.size
  clear X_c X_f X_l
  obtain ⟨X_c, X_f, X_l⟩ := id X
  clear KV
  cases g0 with
  | true =>
    go_wp2_with fail
    go_ret
    exact ⟨rfl, by go_grown⟩
  | false =>
    go_wp2_with fail
    refine (CS.out _ (H.out) (K.out)).mono ?_
    rintro e w3 ⟨o1, m1, rfl, -, hb⟩
    have B3 : Below w.heap.size w w3 := bcall (by go_grown) hb (by go_size)
    have q3 : w2.heap.size + 0 ≤ w3.heap.size := by have z := hb.size; (try simp only [World.size_alloc, World.size_setCell, World.size_drew] at z); omega
    replace H := Lib.hid (H.out.below hb (Nat.le_refl _))
    replace K := Lib.hid (K.out.below hb (Nat.le_refl _))
    replace X := (X).below hb (by go_size)
    clear hb
    have s3 : w.heap.size ≤ w3.heap.size := B3.size
    clear X_c X_f X_l
    obtain ⟨X_c, X_f, X_l⟩ := id X
    by_cases hf : f1 = 0
    · subst hf
      go_wp2_with fail
      go_ret
      exact ⟨rfl, by go_grown⟩
    · have u1 := bneT hf
      have u2 := beqF hf
      go_wp2_with fail
      go_ret
      exact ⟨rfl, by go_grown⟩
set_option maxRecDepth 100000 in
set_option maxHeartbeats 8000000 in
theorem lokL_b (u : Pl.Uni) (ws : List Pl.Need) (a b : Option Addr) (c d : Nat) (w : World) (h1 : UIn w u a c) (h2 : NsIn w ws b d) (E : Env w) (ch : List Int) (e1 : Pl.wantsF u ws = (0, 0)) (eb : Pl.best u ws = some ch) :
    Calls Tryz.prog 3 #[.agg #[.slice a u.length c], .slice b ws.length d] w fun e w' => e = .returned (.bool true) ∧ Below w.heap.size w w' := by
  obtain ⟨ok, okw⟩ := Pl.wantsF_ok.1 (show (Pl.wantsF u ws).1 = 0 by rw [e1])
  have okc : Pl.ChOk u ch := ((Pl.best_some ok.len).1 eb).ok
  have CS := Lib.hid (fun (W : World) (g1 : UIn W u a c) (g2 : NsIn W ws b d) => Solve_any u ws a b c d W g1 g2)
  rw [show Pl.slvR u ws = some ch by unfold Pl.slvR; rw [e1, if_neg (by decide)]; exact eb, e1] at CS
  unfold RSolve at CS
  simp only [fltV, Option.getD_some, Option.isSome_some] at CS
  have CM := Lib.hid (fun (W : World) (q : Option Addr) (t : Nat) (g1 : UIn W u a c) (g2 : Sl W q ch.length t 1 (intVals ch)) (g3 : Env W) => Make_good u ch a q c t W g1 g2 g3 ok okc)
  have OKE := Lib.hid (fun (l : List Pl.Ent) (MT : Pl.MkTo u ch u.length l) => MT.ok ok)
  have SAT := Lib.hid (fun (l : List Pl.Ent) (MT : Pl.MkTo u ch u.length l) (dd : Pl.Need) (hd : dd ∈ ws) => MT.sat ok eb hd (okw.pk dd hd).1)
  have RGS := Lib.hid okw.rg
  have hw4 := okw.len
  clear e1 eb ok okw okc
  have HS := Lib.hid (fun (W : World) (E : Env W) => kernSelects_any W E)
  have KV := Lib.hid (fun (W : World) (g1 : UIn W u a c) (g2 : NsIn W ws b d) => kernVast_any u ws a b c d W g1 g2)
  have H := Lib.hid h1
  have K := Lib.hid h2
  have HE := Lib.hid E
  clear h1 h2 E
  go_enter Tryz.func3, Tryz.ntmps3
  have B0 : Below w.heap.size w w := Below.refl _ _
  go_wp2_with fail
  refine (HS.out _ (HE.out.below (show Below w.heap.size w _ from by go_grown) (Nat.le_refl _))).mono ?_
  rintro e w1 ⟨rfl, hb⟩
  have B1 : Below w.heap.size w w1 := bcall (by go_grown) hb (by go_size)
  have q1 : w.heap.size + 1 ≤ w1.heap.size := by have z := hb.size; (try simp only [World.size_alloc] at z); omega
  replace H := Lib.hid ((H.out.below (Below.refl _ _ |>.alloc (Nat.le_refl _) _) (Nat.le_refl _)).below hb (Nat.le_refl _))
  replace K := Lib.hid ((K.out.below (Below.refl _ _ |>.alloc (Nat.le_refl _) _) (Nat.le_refl _)).below hb (Nat.le_refl _))
  have X := ((Bk.new (r := w.heap.size) (cs := [.slice a u.length c]) _ 24 (by simp))).below hb (by go_size)
  clear hb
  have s1 : w.heap.size ≤ w1.heap.size := B1.size
  obtain ⟨X_c, X_f, X_l⟩ := id X
  go_wp2_with fail
  clear HS
  refine (KV.out _ (H.out) (K.out)).mono ?_
  rintro e w2 ⟨⟨g0, rfl⟩, hb⟩
  have B2 : Below w.heap.size w w2 := bcall (by go_grown) hb (by go_size)
  have q2 : w1.heap.size + 0 ≤ w2.heap.size := by have z := hb.size; (try simp only [World.size_alloc, World.size_setCell, World.size_drew] at z); omega
  replace H := Lib.hid (H.out.below hb (Nat.le_refl _))
  replace K := Lib.hid (K.out.below hb (Nat.le_refl _))
  replace X := (X).below hb (by go_size)
  clear hb
  have s2 : w.heap.size ≤ w2.heap.size := B2.size
  clear X_c X_f X_l
  obtain ⟨X_c, X_f, X_l⟩ := id X
  clear KV
  cases g0 with
  | true =>
    go_wp2_with fail
    go_ret
    exact ⟨rfl, by go_grown⟩
  | false =>
    go_wp2_with fail
    refine (CS.out _ (H.out) (K.out)).mono ?_
    rintro e w3 ⟨o1, m1, rfl, SS, hb⟩
    replace SS := Lib.hid SS
    have B3 : Below w.heap.size w w3 := bcall (by go_grown) hb (by go_size)
    have q3 : w2.heap.size + 0 ≤ w3.heap.size := by have z := hb.size; (try simp only [World.size_alloc, World.size_setCell, World.size_drew] at z); omega
    replace H := Lib.hid (H.out.below hb (Nat.le_refl _))
    replace K := Lib.hid (K.out.below hb (Nat.le_refl _))
    replace X := (X).below hb (by go_size)
    clear hb
    have s3 : w.heap.size ≤ w3.heap.size := B3.size
    clear X_c X_f X_l
    obtain ⟨X_c, X_f, X_l⟩ := id X
    go_wp2_with fail
    refine (CM.out _ _ _ ((H.out.below (Below.refl _ _ |>.alloc (Nat.le_refl _) _) (Nat.le_refl _))) ((SS.out.below (Below.refl _ _ |>.alloc (Nat.le_refl _) _) (Nat.le_refl _))) (HE.out.below (show Below w.heap.size w _ from by go_grown) (Nat.le_refl _))).mono ?_
    rintro e w4 ⟨l, o2, m2, rfl, MT, LL, hb⟩
    replace LL := Lib.hid LL
    have OK := Lib.hid (OKE.out l MT)
    replace SAT := Lib.hid (SAT.out l MT)
    clear MT OKE CM CS
    have B4 : Below w.heap.size w w4 := bcall (by go_grown) hb (by go_size)
    have q4 : w3.heap.size + 1 ≤ w4.heap.size := by have z := hb.size; (try simp only [World.size_alloc] at z); omega
    replace H := Lib.hid ((H.out.below (Below.refl _ _ |>.alloc (Nat.le_refl _) _) (Nat.le_refl _)).below hb (Nat.le_refl _))
    replace K := Lib.hid ((K.out.below (Below.refl _ _ |>.alloc (Nat.le_refl _) _) (Nat.le_refl _)).below hb (Nat.le_refl _))
    replace SS := Lib.hid ((SS.out.below (Below.refl _ _ |>.alloc (Nat.le_refl _) _) (Nat.le_refl _)).below hb (Nat.le_refl _))
    replace X := ((X.alloc _)).below hb (by go_size)
    have F := ((Bk.new (r := w3.heap.size) (cs := [.int .i64 0, .int .i64 0]) _ 30 (by simp))).below hb (by go_size)
    clear hb
    have s4 : w.heap.size ≤ w4.heap.size := B4.size
    clear X_c X_f X_l
    obtain ⟨X_c, X_f, X_l⟩ := id X
    obtain ⟨F_c, F_f, F_l⟩ := id F
    clear SS
    go_wp2_with fail
    refine (lockWrite_good l o2 m2 _ ((LL.out.below (Below.refl _ _ |>.alloc (Nat.le_refl _) _) (Nat.le_refl _))) (HE.out.below (show Below w.heap.size w _ from by go_grown) (Nat.le_refl _)) OK.out).mono ?_
    rintro e w5 ⟨o3, m3, rfl, WW, hb⟩
    replace WW := Lib.hid WW
    have B5 : Below w.heap.size w w5 := bcall (by go_grown) hb (by go_size)
    have q5 : w4.heap.size + 1 ≤ w5.heap.size := by have z := hb.size; (try simp only [World.size_alloc] at z); omega
    replace H := Lib.hid ((H.out.below (Below.refl _ _ |>.alloc (Nat.le_refl _) _) (Nat.le_refl _)).below hb (Nat.le_refl _))
    replace K := Lib.hid ((K.out.below (Below.refl _ _ |>.alloc (Nat.le_refl _) _) (Nat.le_refl _)).below hb (Nat.le_refl _))
    replace LL := Lib.hid ((LL.out.below (Below.refl _ _ |>.alloc (Nat.le_refl _) _) (Nat.le_refl _)).below hb (Nat.le_refl _))
    replace X := ((X.alloc _)).below hb (by go_size)
    replace F := ((F.alloc _)).below hb (by go_size)
    have G := ((Bk.new (r := w4.heap.size) (cs := [.int .i64 0, .int .i64 0]) _ 30 (by simp))).below hb (by go_size)
    clear hb
    have s5 : w.heap.size ≤ w5.heap.size := B5.size
    clear X_c X_f X_l F_c F_f F_l
    obtain ⟨X_c, X_f, X_l⟩ := id X
    obtain ⟨F_c, F_f, F_l⟩ := id F
    obtain ⟨G_c, G_f, G_l⟩ := id G
    clear LL
    go_wp2_with fail
    refine (lockRead_good l o3 m3 _ ((WW.out.below (Below.refl _ _ |>.alloc (Nat.le_refl _) _) (Nat.le_refl _))) (HE.out.below (show Below w.heap.size w _ from by go_grown) (Nat.le_refl _)) OK.out).mono ?_
    rintro e w6 ⟨o4, m4, rfl, RR, hb⟩
    replace RR := Lib.hid RR
    have B6 : Below w.heap.size w w6 := bcall (by go_grown) hb (by go_size)
    have q6 : w5.heap.size + 1 ≤ w6.heap.size := by have z := hb.size; (try simp only [World.size_alloc] at z); omega
    replace H := Lib.hid ((H.out.below (Below.refl _ _ |>.alloc (Nat.le_refl _) _) (Nat.le_refl _)).below hb (Nat.le_refl _))
    replace K := Lib.hid ((K.out.below (Below.refl _ _ |>.alloc (Nat.le_refl _) _) (Nat.le_refl _)).below hb (Nat.le_refl _))
    replace WW := Lib.hid ((WW.out.below (Below.refl _ _ |>.alloc (Nat.le_refl _) _) (Nat.le_refl _)).below hb (Nat.le_refl _))
    replace X := ((X.alloc _)).below hb (by go_size)
    replace F := ((F.alloc _)).below hb (by go_size)
    replace G := ((G.alloc _)).below hb (by go_size)
    have I := ((Bk.new (r := w5.heap.size) (cs := [.int .i64 0, .int .i64 0]) _ 30 (by simp))).below hb (by go_size)
    clear hb
    have s6 : w.heap.size ≤ w6.heap.size := B6.size
    clear X_c X_f X_l F_c F_f F_l G_c G_f G_l
    obtain ⟨X_c, X_f, X_l⟩ := id X
    obtain ⟨F_c, F_f, F_l⟩ := id F
    obtain ⟨G_c, G_f, G_l⟩ := id G
    obtain ⟨I_c, I_f, I_l⟩ := id I
    clear WW
    go_wp2_with fail
    have B7 : Below w.heap.size w (w6.alloc (.cells #[.int .i64 0, .int .i64 0] 30)) := by go_grown
    have q7 : w6.heap.size + 1 ≤ (w6.alloc (.cells #[.int .i64 0, .int .i64 0] 30)).heap.size := by simp only [World.size_alloc]; omega
    replace H := Lib.hid (H.out.below (Below.refl _ _ |>.alloc (Nat.le_refl _) (.cells #[.int .i64 0, .int .i64 0] 30)) (Nat.le_refl _))
    replace K := Lib.hid (K.out.below (Below.refl _ _ |>.alloc (Nat.le_refl _) (.cells #[.int .i64 0, .int .i64 0] 30)) (Nat.le_refl _))
    replace RR := Lib.hid (RR.out.below (Below.refl _ _ |>.alloc (Nat.le_refl _) (.cells #[.int .i64 0, .int .i64 0] 30)) (Nat.le_refl _))
    replace X := (X.alloc (.cells #[.int .i64 0, .int .i64 0] 30))
    replace F := (F.alloc (.cells #[.int .i64 0, .int .i64 0] 30))
    replace G := (G.alloc (.cells #[.int .i64 0, .int .i64 0] 30))
    replace I := (I.alloc (.cells #[.int .i64 0, .int .i64 0] 30))
    have J := (Bk.new (r := w6.heap.size) (cs := [.int .i64 0, .int .i64 0]) w6 30 (by simp))
    clear X_c X_f X_l F_c F_f F_l G_c G_f G_l I_c I_f I_l
    generalize (w6.alloc (.cells #[.int .i64 0, .int .i64 0] 30)) = w7 at *
    have s7 : w.heap.size ≤ w7.heap.size := B7.size
    obtain ⟨X_c, X_f, X_l⟩ := id X
    obtain ⟨F_c, F_f, F_l⟩ := id F
    obtain ⟨G_c, G_f, G_l⟩ := id G
    obtain ⟨I_c, I_f, I_l⟩ := id I
    obtain ⟨J_c, J_f, J_l⟩ := id J
    clear X_c X_f X_l F_c F_f F_l G_c G_f G_l I_c I_f I_l J_c J_f J_l
    clear X F G I J H HE
    have hl6 := OK.out.len
    replace OK := Lib.hid OK.out.each
    go_loopw [14] (fun i wr => ∃ k : Nat, k ≤ ws.length ∧ i = .int .i64 k ∧ Below w7.heap.size w7 wr) (fun i _ => ws.length - (intOf i).toNat)
    case atStart => exact ⟨0, Nat.zero_le _, rfl, Below.refl _ _⟩
    case round =>
      obtain ⟨k, hk, rfl, BW⟩ := hrel
      by_cases hlt : k < ws.length
      · have t5 : decide ((k : Int) < (ws.length : Int)) = true := decT (by omega)
        have t5' : decide (k < ws.length) = true := decT hlt
        obtain ⟨bw, fw, rfl, hbw, hatw⟩ := K.out.at (by omega)
        obtain ⟨a1, c1, N0⟩ := hatw k hlt
        have ST := Lib.hid (SAT.out _ (List.getElem_mem hlt))
        have RG := Lib.hid (RGS.out _ (List.getElem_mem hlt))
        have i1 : (k : Int) < (ws.length : Int) := by omega
        replace N0 := Lib.hid N0
        clear hatw
        generalize ws[k] = dd at *
        go_wp2_with fail
        go_loopw [15, 16] (fun fv jv wv => ∃ (j : Nat) (F : Bool), j ≤ l.length ∧ fv = .bool F ∧ jv = .int .i64 j ∧ Hid (Pl.FTo l dd j F) ∧ Below w7.heap.size w7 wv) (fun _ jv _ => l.length - (intOf jv).toNat)
        case atStart => exact ⟨0, false, Nat.zero_le _, rfl, rfl, Lib.hid (fun i h h0 => absurd h0 (by omega)), BW⟩
        case round =>
          obtain ⟨j, F, hj, rfl, rfl, FT, BV⟩ := hrel
          clear BW
          have s9 := BV.size
          by_cases hlt2 : j < l.length
          · have t6 : decide ((j : Int) < (l.length : Int)) = true := decT (by omega)
            have t6' : decide (j < l.length) = true := decT hlt2
            obtain ⟨be, fe, rfl, hbe, hate⟩ := RR.out.at (by omega)
            obtain ⟨a2, c2, E0⟩ := hate j hlt2
            have OX := Lib.hid (OK.out _ (List.getElem_mem hlt2)).v
            have F1 : Hid (l[j].pk ≠ dd.pk → Pl.FTo l dd (j + 1) F) := Lib.hid (fun ne => FT.out.no ne)
            have F2 : Hid (F = false → Pl.FTo l dd (j + 1) (Pl.hasB dd.rg l[j].ver)) := Lib.hid (fun hF => by have h := FT.out; rw [hF] at h; exact h.put)
            have i2 : (j : Int) < (l.length : Int) := by omega
            replace E0 := Lib.hid E0
            clear hate
            generalize l[j] = x at *
            go_upto_region 20 with fail
            go_cut [17, 18] (fun iv ev wx => ∃ g, iv = .bool (Pl.hasB dd.rg x.ver) ∧ ev = .pointer (some ⟨g, 0, none⟩) ∧ Bk wx g [.int .i64 0, .int .i64 0] ∧ Below wr.heap.size wr wx)
            case first =>
              refine wp_region_two (fun j _ => j ∈ [16]) [0, 1, 2, 3, 4, 5, 6, 7, 8, 9] 10 [11, 12, 13, 14, 15, 16] 14 [10, 11, 12, 13, 15, 16] (by kernel_rfl) (by kernel_rfl) ?_
              have BD : Below wr.heap.size wr wr.drew := (Below.refl _ _).drew
              have B2 : Below w7.heap.size w7 wr.drew := bcall BV BD (by omega)
              generalize wr.drew = w21 at *
              have q2 := BD.size
              obtain ⟨e0, e1, RIN⟩ := N0.out.below B2 hbw (Nat.le_refl _)
              obtain ⟨f0, f1, f2, f3, f4, f5, VIN⟩ := E0.out.below B2 hbe (Nat.le_refl _)
              have hbw2 : bw < w21.heap.size := by omega
              have hbe2 : be < w21.heap.size := by omega
              have CC := Lib.hid (fun (W : World) (hb : Below w21.heap.size w21 W) => con_good RG.out OX.out a1 a2 c1 c2 W (RIN.below hb (Nat.le_refl _)) (VIN.below hb (Nat.le_refl _)))
              unfold verV at CC
              clear RIN VIN
              repeat (first | (refine wpR_pure rfl rfl ?_; go_big_quiet_step (fail); refine wpQuiet_nil ?_) | (refine wpR_rd [16] (fun _ _ h => h) (by kernel_rfl) rfl rfl ?_; go_big_quiet_step (fail); refine wpQuiet_nil ?_))
              try simp only [Act.put, List.setIfInBounds_toArray, List.set_cons_zero, List.set_cons_succ]
              clear e0 e1 f0 f1 f2 f3 f4 f5 hbw2 hbe2
              refine wpR_nil ⟨?_, ?_⟩
              · refine wpR_call (f := 10) rfl rfl rfl (by simp [go_sem]; rfl) ?_
                refine (CC.out _ (Below.refl _ _)).mono ?_
                rintro e w3 ⟨rfl, hb⟩
                refine ⟨_, rfl, hb, ?_⟩
                have B3 : Below wr.heap.size wr w3 := bcall BD hb (by omega)
                have q3 := hb.size
                clear hb CC
                try simp only [Act.put, List.setIfInBounds_toArray, List.set_cons_zero, List.set_cons_succ]
                repeat (refine wpR_pure rfl rfl ?_; go_big_quiet_step (fail); refine wpQuiet_nil ?_)
                try simp only [Act.put, List.setIfInBounds_toArray, List.set_cons_zero, List.set_cons_succ]
                refine wpR_add rfl rfl rfl (u := .pointer (some ⟨w3.heap.size, 0, none⟩)) (w' := w3.alloc (.cells #[.int .i64 0, .int .i64 0] 30)) (by simp [go_sem]) (Below.ext ((Below.refl _ _).alloc (Nat.le_refl _) _)) ?_
                try simp only [Act.put, List.setIfInBounds_toArray, List.set_cons_zero, List.set_cons_succ]
                have Z := Bk.new (r := w3.heap.size) (cs := [.int .i64 0, .int .i64 0]) w3 30 rfl
                have B4 : Below wr.heap.size wr (w3.alloc (.cells #[.int .i64 0, .int .i64 0] 30)) := by go_grown
                generalize w3.alloc (.cells #[.int .i64 0, .int .i64 0] 30) = w4 at *
                obtain ⟨Z_c, Z_f, Z_l⟩ := id Z
                repeat (refine wpR_pure rfl rfl ?_; go_big_quiet_step (fail); refine wpQuiet_nil ?_)
                try simp only [Act.put, List.setIfInBounds_toArray, List.set_cons_zero, List.set_cons_succ]
                refine wpR_st rfl rfl rfl (w' := (w4.setCell ⟨w3.heap.size, 0, none⟩ (.int .i64 0)).setCell ⟨w3.heap.size, 1, none⟩ (.int .i64 0)) (by simp [go_sem, Z_c, Z_f]) (((ExtD.refl _ _).setCell (by exact List.mem_singleton.2 rfl) _).setCell (by exact List.mem_singleton.2 rfl) _) ?_
                try simp only [Act.put]
                refine wpR_nil ?_
                try simp only [Act.put, List.setIfInBounds_toArray, List.set_cons_zero, List.set_cons_succ]
                go_wp2_with fail
                go_meet
                exact ⟨w3.heap.size, rfl, rfl, (Z.set (k := 0) (by simp) (.int .i64 0)).set (k := 1) (by simp) (.int .i64 0), by go_grown⟩
              · refine wpR_add rfl rfl rfl (u := .pointer (some ⟨w21.heap.size, 0, none⟩)) (w' := w21.alloc (.cells #[.int .i64 0, .int .i64 0] 30)) (by simp [go_sem]) (Below.ext ((Below.refl _ _).alloc (Nat.le_refl _) _)) ?_
                try simp only [Act.put, List.setIfInBounds_toArray, List.set_cons_zero, List.set_cons_succ]
                have Z := Bk.new (r := w21.heap.size) (cs := [.int .i64 0, .int .i64 0]) w21 30 rfl
                have BA : Below w21.heap.size w21 (w21.alloc (.cells #[.int .i64 0, .int .i64 0] 30)) := by go_grown
                generalize w21.alloc (.cells #[.int .i64 0, .int .i64 0] 30) = w3 at *
                refine wpR_call (f := 10) rfl rfl rfl (by simp [go_sem]; rfl) ?_
                refine (CC.out _ BA).mono ?_
                rintro e w4 ⟨rfl, hb⟩
                refine ⟨_, rfl, hb, ?_⟩
                have q3 := BA.size
                have B4 : Below wr.heap.size wr w4 := bcall (bcall BD BA (by omega)) hb (by omega)
                replace Z := Z.below hb Z.lt
                clear hb CC BA
                try simp only [Act.put, List.setIfInBounds_toArray, List.set_cons_zero, List.set_cons_succ]
                repeat (refine wpR_pure rfl rfl ?_; go_big_quiet_step (fail); refine wpQuiet_nil ?_)
                try simp only [Act.put, List.setIfInBounds_toArray, List.set_cons_zero, List.set_cons_succ]
                obtain ⟨Z_c, Z_f, Z_l⟩ := id Z
                refine wpR_st rfl rfl rfl (w' := (w4.setCell ⟨w21.heap.size, 0, none⟩ (.int .i64 0)).setCell ⟨w21.heap.size, 1, none⟩ (.int .i64 0)) (by simp [go_sem, Z_c, Z_f]) (((ExtD.refl _ _).setCell (by exact List.mem_singleton.2 rfl) _).setCell (by exact List.mem_singleton.2 rfl) _) ?_
                try simp only [Act.put]
                refine wpR_nil ?_
                try simp only [Act.put, List.setIfInBounds_toArray, List.set_cons_zero, List.set_cons_succ]
                go_wp2_with fail
                go_meet
                exact ⟨w21.heap.size, rfl, rfl, (Z.set (k := 0) (by simp) (.int .i64 0)).set (k := 1) (by simp) (.int .i64 0), by go_grown⟩
            case rest =>
              obtain ⟨g, rfl, rfl, Z, BX⟩ := hcut
              have B2 : Below w7.heap.size w7 wc.drew := (bcall BV BX (by omega)).drew
              replace Z := Z.drew
              go_wp2_with fail
              refine wp_region_ord [0, 1, 2, 3, 4, 5, 6, 7, 8, 9, 10, 11, 12, 13, 14, 15, 16, 17, 18, 19, 20, 21, 22] (by kernel_rfl) (by kernel_rfl) ?_
              clear BV BX FT
              generalize wc.drew = wd at *
              have q2 := B2.size
              obtain ⟨e0, e1, -⟩ := N0.out.below B2 hbw (Nat.le_refl _)
              obtain ⟨f0, f1, f2, f3, f4, f5, -⟩ := E0.out.below B2 hbe (Nat.le_refl _)
              have hbw2 : bw < wd.heap.size := by omega
              have hbe2 : be < wd.heap.size := by omega
              obtain ⟨Z_c, Z_f, Z_l⟩ := id Z
              generalize Pl.hasB dd.rg x.ver = hb at *
              cases F with
              | true =>
                repeat (first | (refine wpI_rd rfl rfl ?_; go_big_quiet_step (fail); refine wpQuiet_nil ?_) | (refine wpI_skip rfl rfl ?_; try simp only [Act.put, List.setIfInBounds_toArray, List.set_cons_zero, List.set_cons_succ]))
                try simp only [Act.put, List.setIfInBounds_toArray, List.set_cons_zero, List.set_cons_succ]
                refine wpI_nil ?_
                try simp only [Act.put, List.setIfInBounds_toArray, List.set_cons_zero, List.set_cons_succ]
                go_wp2_with fail
                go_roundw
                case rel => exact ⟨j + 1, true, hlt2, rfl, by go_num, Lib.hid (fun _ _ _ _ _ => rfl), by go_grown⟩
                case measure => simp [intOf]; omega
              | false =>
                by_cases hp : x.pk = dd.pk
                · have v1 : (x.pk == dd.pk) = true := by simp [hp]
                  have v2 : decide (x.pk = dd.pk) = true := decT hp
                  repeat (first | (refine wpI_rd rfl rfl ?_; go_big_quiet_step (fail); refine wpQuiet_nil ?_) | (refine wpI_skip rfl rfl ?_; try simp only [Act.put, List.setIfInBounds_toArray, List.set_cons_zero, List.set_cons_succ]))
                  try simp only [Act.put, List.setIfInBounds_toArray, List.set_cons_zero, List.set_cons_succ]
                  refine wpI_nil ?_
                  try simp only [Act.put, List.setIfInBounds_toArray, List.set_cons_zero, List.set_cons_succ]
                  go_wp2_with fail
                  go_roundw
                  case rel => exact ⟨j + 1, hb, hlt2, rfl, by go_num, Lib.hid (F2.out rfl), by go_grown⟩
                  case measure => simp [intOf]; omega
                · have v1 : (x.pk == dd.pk) = false := by simp [hp]
                  have v2 : decide (x.pk = dd.pk) = false := decF hp
                  repeat (first | (refine wpI_rd rfl rfl ?_; go_big_quiet_step (fail); refine wpQuiet_nil ?_) | (refine wpI_skip rfl rfl ?_; try simp only [Act.put, List.setIfInBounds_toArray, List.set_cons_zero, List.set_cons_succ]))
                  try simp only [Act.put, List.setIfInBounds_toArray, List.set_cons_zero, List.set_cons_succ]
                  refine wpI_nil ?_
                  try simp only [Act.put, List.setIfInBounds_toArray, List.set_cons_zero, List.set_cons_succ]
                  go_wp2_with fail
                  go_roundw
                  case rel => exact ⟨j + 1, false, hlt2, rfl, by go_num, Lib.hid (F1.out hp), by go_grown⟩
                  case measure => simp [intOf]; omega
          · have t6 : decide ((j : Int) < (l.length : Int)) = false := decF (by omega)
            have t6' : decide (j < l.length) = false := decF hlt2
            obtain rfl : F = true := FT.out.end (by omega) ST.out
            go_wp2_with fail
            go_roundw
            case rel => exact ⟨k + 1, hlt, by go_num, BV⟩
            case measure => simp [intOf]; omega
      · have t5 : decide ((k : Int) < (ws.length : Int)) = false := decF (by omega)
        have t5' : decide (k < ws.length) = false := decF hlt
        have B9 : Below w.heap.size w wr := bcall B7 BW (by omega)
        go_wp2_with fail
        go_ret
        exact ⟨rfl, by go_grown⟩
theorem TopLockedVersionsSatisfyWants_any (u : Pl.Uni) (ws : List Pl.Need) (a b : Option Addr) (c d : Nat) (w : World) (h1 : UIn w u a c) (h2 : NsIn w ws b d) (E : Env w) :
    Calls Tryz.prog 3 #[.agg #[.slice a u.length c], .slice b ws.length d] w fun e w' => e = .returned (.bool true) ∧ Below w.heap.size w w' := by
  by_cases f : (Pl.wantsF u ws).1 = 0
  · cases r : Pl.best u ws with
    | none => exact lokL_a u ws a b c d w h1 h2 E _ _ rfl (by unfold Pl.slvR; rw [if_neg (fun e => e f)]; exact r)
    | some ch => exact lokL_b u ws a b c d w h1 h2 E ch (Pl.wantsF_ne f).1 r
  · exact lokL_a u ws a b c d w h1 h2 E _ _ rfl (by unfold Pl.slvR; rw [if_pos f])
end Go.Proofs.YtgngehfgcogceaaGreatDoor
