/- Texts joined: Jh Ji Jj. -/
import Derived.Test.YtgngehfgcogceaaGreatDoorZMJg
import Derived.Test.YtgngehfgcogceaaGreatDoorZJc
import Derived.Test.YtgngehfgcogceaaGreatDoorZMBs
import Derived.Test.YtgngehfgcogceaaGreatDoorZKn
import Derived.Test.YtgngehfgcogceaaGreatDoorZDh
import Derived.Test.YtgngehfgcogceaaGreatDoorZMKo
import Derived.Test.YtgngehfgcogceaaGreatDoorZMDf
section
/- Contracts: a number and a line of a lock file are read (lockfile.number, lockfile.entry). -/
namespace Go.Proofs.YtgngehfgcogceaaGreatDoor
open Go.RowKit

theorem Atoi_good (n : Int) (w : World) (h0 : 0 ≤ n) (h1 : n < 2305843009213693951) :
    Calls Tryz.prog 65 #[.string (Pl.mkS (Pl.digS n))] w fun e w' => e = .returned (.tuple #[.int .i64 n, .nilIface]) ∧ Below w.heap.size w w' := by
  refine (Tryz.strconv_Atoi_ok (Pl.mkS (Pl.digS n)) (by have := Pl.dig_len h1; rw [Pl.mkS_size]; omega) n (by rw [show (Pl.mkS (Pl.digS n)).data.toList = Pl.digS n from Pl.bsl_mkS _]; exact Pl.atoi_dig h0 h1) w).mono ?_
  rintro e w' ⟨rfl, hw⟩
  refine ⟨rfl, ?_⟩
  rcases hw with rfl | ⟨t, rfl⟩
  · exact Below.refl _ _
  · exact Lib.bytesWorld_below _ _ _
set_option maxHeartbeats 2000000 in
theorem number_good (n m : Int) (w : World) (E : Env w) (h0 : 0 ≤ n) (h1 : n < 2305843009213693951) (h2 : n ≤ m) :
    Calls Tryz.prog 44 #[.string (Pl.mkS (Pl.digS n)), .int .i64 m] w fun e w' => e = .returned (.tuple #[.int .i64 n, .bool true]) ∧ Below w.heap.size w w' := by
  have CA := Lib.hid (fun (W : World) => Atoi_good n W h0 h1)
  have CI := Lib.hid (fun (W : World) (E : Env W) => show Calls Tryz.prog 23 #[.int .i64 n] W (fun e w' => e = .returned (.string (Pl.mkS (Pl.digS n))) ∧ Below W.heap.size W w') from Itoa_any n W h0 (by omega) E)
  have t1 : decide (0 ≤ n) = true := by simp; omega
  have t2 : decide (n ≤ m) = true := by simp; omega
  have HE := Lib.hid E
  generalize Pl.mkS (Pl.digS n) = S at *
  clear h0 h1 h2 E
  go_enter Tryz.func44, Tryz.ntmps44
  have B0 : Below w.heap.size w w := Below.refl _ _
  go_wp2_with fail
  refine (CA.out _).mono ?_
  rintro e w1 ⟨rfl, hb⟩
  have B1 : Below w.heap.size w w1 := bcall (by go_grown) hb (by go_size)
  have q1 : w.heap.size + 0 ≤ w1.heap.size := by have z := hb.size; (try simp only [World.size_alloc, World.size_setCell, World.size_drew] at z); omega
  clear hb
  have s1 : w.heap.size ≤ w1.heap.size := B1.size
  go_wp2_with fail
  refine (CI.out _ (HE.out.below B1 (Nat.le_refl _))).mono ?_
  rintro e w2 ⟨rfl, hb⟩
  have B2 : Below w.heap.size w w2 := bcall (by go_grown) hb (by go_size)
  have q2 : w1.heap.size + 0 ≤ w2.heap.size := by have z := hb.size; (try simp only [World.size_alloc, World.size_setCell, World.size_drew] at z); omega
  clear hb
  have s2 : w.heap.size ≤ w2.heap.size := B2.size
  go_wp2_with fail
  refine bodyPost_ret (v := .tuple #[.int .i64 n, .bool true]) (by simp [results, Tryz.results44, go_sem]) rfl ⟨rfl, by go_grown⟩
/-- What a good line is read as. -/
def REnt (x : Pl.Ent) (w : World) (e : Ending) (w' : World) : Prop := ∃ a c, e = .returned (.tuple #[.agg #[.int .i64 x.pk, .int .i64 x.ver.maj, .int .i64 x.ver.min, .int .i64 x.ver.pat, .slice a x.ver.pre.length c, .int .i64 x.dig], .bool true]) ∧ VIn w' x.ver a c ∧ SlQ (fun b => w.heap.size ≤ b) a x.ver.pre.length ∧ Below w.heap.size w w'
set_option maxRecDepth 100000 in
set_option maxHeartbeats 4000000 in
theorem entry_good (x : Pl.Ent) (w : World) (E : Env w) (ok : Pl.EntOk x) :
    Calls Tryz.prog 24 #[.string (Pl.entS x)] w (REnt x w) := by
  have HE := Lib.hid E
  have CS := Lib.hid (fun (W : World) (E : Env W) => show Calls Tryz.prog 28 #[.string (Pl.entS x), .string ⟨#[32]⟩] W (fun e w' => e = .returned (.slice (some ⟨W.heap.size, 0, none⟩) 3 3) ∧ w' = W.alloc (.cells #[.string (Pl.mkS (Pl.digS x.pk)), .string (Pl.mkS (Pl.verT x.ver)), .string (Pl.mkS (Pl.digS x.dig))] 9)) from by
    have h := Split_at (Pl.entS x) 32 W (by have := Pl.ent_len ok; omega) E
    rw [Pl.split_ent ok.v] at h
    exact h)
  have CV := Lib.hid (fun (W : World) (E : Env W) => show Calls Tryz.prog 43 #[.string (Pl.mkS (Pl.verT x.ver))] W (RVerFO x.ver W) from by
    have h := Parse_own (Pl.mkS (Pl.verT x.ver)) W (by rw [Pl.mkS_size]; exact Pl.verT_len ok.v) (Pl.ver_read ok.v).2 E
    rw [(Pl.ver_read ok.v).1] at h
    exact h)
  have C1 := Lib.hid (fun (W : World) (E : Env W) => number_good x.pk 1000000000 W E ok.lo (by have := ok.hi; omega) (by have := ok.hi; omega))
  have C2 := Lib.hid (fun (W : World) (E : Env W) => number_good x.dig 2305843009213693950 W E ok.d0 ok.d1 (by have := ok.d1; omega))
  generalize Pl.mkS (Pl.digS x.pk) = S1 at *
  generalize Pl.mkS (Pl.verT x.ver) = S2 at *
  generalize Pl.mkS (Pl.digS x.dig) = S3 at *
  clear E ok
  go_enter Tryz.func24, Tryz.ntmps24
  have B0 : Below w.heap.size w w := Below.refl _ _
  go_wp2_with fail
  refine (CS.out _ (HE.out.below (by go_grown) (Nat.le_refl _))).mono ?_
  rintro e w' ⟨rfl, rfl⟩
  have B1 : Below w.heap.size w ((w.alloc (.cells #[.int .i64 0, .int .i64 0, .int .i64 0, .int .i64 0, .slice none 0 0, .int .i64 0] 50)).alloc (.cells #[.string S1, .string S2, .string S3] 9)) := by go_grown
  have q1 : w.heap.size + 2 ≤ ((w.alloc (.cells #[.int .i64 0, .int .i64 0, .int .i64 0, .int .i64 0, .slice none 0 0, .int .i64 0] 50)).alloc (.cells #[.string S1, .string S2, .string S3] 9)).heap.size := by simp only [World.size_alloc]; omega
  have R := ((Bk.new (r := w.heap.size) (cs := [.int .i64 0, .int .i64 0, .int .i64 0, .int .i64 0, .slice none 0 0, .int .i64 0]) w 50 (by simp)).alloc (.cells #[.string S1, .string S2, .string S3] 9))
  have P := (Bk.new (r := w.heap.size + 1) (cs := [.string S1, .string S2, .string S3]) (w.alloc (.cells #[.int .i64 0, .int .i64 0, .int .i64 0, .int .i64 0, .slice none 0 0, .int .i64 0] 50)) 9 (by simp))
  generalize ((w.alloc (.cells #[.int .i64 0, .int .i64 0, .int .i64 0, .int .i64 0, .slice none 0 0, .int .i64 0] 50)).alloc (.cells #[.string S1, .string S2, .string S3] 9)) = w1 at *
  have s1 : w.heap.size ≤ w1.heap.size := B1.size
  obtain ⟨R_c, R_f, R_l⟩ := id R
  obtain ⟨P_c, P_f, P_l⟩ := id P
  go_wp2_with fail
  refine (CV.out _ (HE.out.below B1 (Nat.le_refl _))).mono ?_
  rintro e w2 ⟨a, c, rfl, V, Q, hb⟩
  have B2 : Below w.heap.size w w2 := bcall (by go_grown) hb (by go_size)
  have q2 : w1.heap.size + 0 ≤ w2.heap.size := by have z := hb.size; (try simp only [World.size_alloc, World.size_setCell, World.size_drew] at z); omega
  replace R := (R).below hb (by go_size)
  replace P := (P).below hb (by go_size)
  clear hb
  have s2 : w.heap.size ≤ w2.heap.size := B2.size
  clear R_c R_f R_l P_c P_f P_l
  obtain ⟨R_c, R_f, R_l⟩ := id R
  obtain ⟨P_c, P_f, P_l⟩ := id P
  have V := Lib.hid V
  have Q := Lib.hid Q
  unfold verV
  go_wp2_with fail
  refine (C1.out _ (HE.out.below (by go_grown) (Nat.le_refl _))).mono ?_
  rintro e w3 ⟨rfl, hb⟩
  have B3 : Below w.heap.size w w3 := bcall (by go_grown) hb (by go_size)
  have q3 : w2.heap.size + 2 ≤ w3.heap.size := by have z := hb.size; (try simp only [World.size_alloc] at z); omega
  replace V := Lib.hid (((V.out.below (Below.refl _ _ |>.alloc (Nat.le_refl _) _) (Nat.le_refl _)).below (Below.refl _ _ |>.alloc (Nat.le_refl _) _) (Nat.le_refl _)).below hb (Nat.le_refl _))
  replace R := (((R.alloc _).alloc _)).below hb (by go_size)
  replace P := (((P.alloc _).alloc _)).below hb (by go_size)
  have VB := (((Bk.new (r := w2.heap.size) (cs := [.int .i64 x.ver.maj, .int .i64 x.ver.min, .int .i64 x.ver.pat, .slice a x.ver.pre.length c]) _ 48 (by simp)).alloc _)).below hb (by go_size)
  have FB := ((Bk.new (r := w2.heap.size + 1) (cs := [.int .i64 0, .int .i64 0]) _ 30 (by simp))).below hb (by go_size)
  clear hb
  have s3 : w.heap.size ≤ w3.heap.size := B3.size
  clear R_c R_f R_l P_c P_f P_l
  obtain ⟨R_c, R_f, R_l⟩ := id R
  obtain ⟨P_c, P_f, P_l⟩ := id P
  obtain ⟨VB_c, VB_f, VB_l⟩ := id VB
  obtain ⟨FB_c, FB_f, FB_l⟩ := id FB
  go_wp2_with fail
  refine (C2.out _ (HE.out.below (by go_grown) (Nat.le_refl _))).mono ?_
  rintro e w4 ⟨rfl, hb⟩
  have B4 : Below w.heap.size w w4 := bcall (by go_grown) hb (by go_size)
  have q4 : w3.heap.size + 0 ≤ w4.heap.size := by have z := hb.size; (try simp only [World.size_alloc, World.size_setCell, World.size_drew] at z); omega
  replace V := Lib.hid (V.out.below hb (Nat.le_refl _))
  replace R := (R).below hb (by go_size)
  replace P := (P).below hb (by go_size)
  replace VB := (VB).below hb (by go_size)
  replace FB := (FB).below hb (by go_size)
  clear hb
  have s4 : w.heap.size ≤ w4.heap.size := B4.size
  clear R_c R_f R_l P_c P_f P_l VB_c VB_f VB_l FB_c FB_f FB_l
  obtain ⟨R_c, R_f, R_l⟩ := id R
  obtain ⟨P_c, P_f, P_l⟩ := id P
  obtain ⟨VB_c, VB_f, VB_l⟩ := id VB
  obtain ⟨FB_c, FB_f, FB_l⟩ := id FB
  go_wp2_with fail
  go_region
  go_wp2_with fail
  have B5 : Below w.heap.size w ((((((w4.setCell ⟨w.heap.size, 0, none⟩ (.int .i64 x.pk)).setCell ⟨w.heap.size, 1, none⟩ (.int .i64 x.ver.maj)).setCell ⟨w.heap.size, 2, none⟩ (.int .i64 x.ver.min)).setCell ⟨w.heap.size, 3, none⟩ (.int .i64 x.ver.pat)).setCell ⟨w.heap.size, 4, none⟩ (.slice a x.ver.pre.length c)).setCell ⟨w.heap.size, 5, none⟩ (.int .i64 x.dig)).drew := by go_grown
  have q5 : w4.heap.size + 0 ≤ ((((((w4.setCell ⟨w.heap.size, 0, none⟩ (.int .i64 x.pk)).setCell ⟨w.heap.size, 1, none⟩ (.int .i64 x.ver.maj)).setCell ⟨w.heap.size, 2, none⟩ (.int .i64 x.ver.min)).setCell ⟨w.heap.size, 3, none⟩ (.int .i64 x.ver.pat)).setCell ⟨w.heap.size, 4, none⟩ (.slice a x.ver.pre.length c)).setCell ⟨w.heap.size, 5, none⟩ (.int .i64 x.dig)).drew.heap.size := by simp only [World.size_setCell, World.size_drew]; omega
  replace V := Lib.hid (((((((V.out.setNS (R.c 0) (fun _ h => by cases h) (.int .i64 x.pk)).setNS ((R.set (k := 0) (by simp) (.int .i64 x.pk)).c 1) (fun _ h => by cases h) (.int .i64 x.ver.maj)).setNS (((R.set (k := 0) (by simp) (.int .i64 x.pk)).set (k := 1) (by simp) (.int .i64 x.ver.maj)).c 2) (fun _ h => by cases h) (.int .i64 x.ver.min)).setNS ((((R.set (k := 0) (by simp) (.int .i64 x.pk)).set (k := 1) (by simp) (.int .i64 x.ver.maj)).set (k := 2) (by simp) (.int .i64 x.ver.min)).c 3) (fun _ h => by cases h) (.int .i64 x.ver.pat)).setNS (((((R.set (k := 0) (by simp) (.int .i64 x.pk)).set (k := 1) (by simp) (.int .i64 x.ver.maj)).set (k := 2) (by simp) (.int .i64 x.ver.min)).set (k := 3) (by simp) (.int .i64 x.ver.pat)).c 4) (fun _ h => by cases h) (.slice a x.ver.pre.length c)).setNS ((((((R.set (k := 0) (by simp) (.int .i64 x.pk)).set (k := 1) (by simp) (.int .i64 x.ver.maj)).set (k := 2) (by simp) (.int .i64 x.ver.min)).set (k := 3) (by simp) (.int .i64 x.ver.pat)).set (k := 4) (by simp) (.slice a x.ver.pre.length c)).c 5) (fun _ h => by cases h) (.int .i64 x.dig)).below (Below.refl _ _).drew (Nat.le_refl _))
  replace R := ((((((R.set (k := 0) (by simp) (.int .i64 x.pk)).set (k := 1) (by simp) (.int .i64 x.ver.maj)).set (k := 2) (by simp) (.int .i64 x.ver.min)).set (k := 3) (by simp) (.int .i64 x.ver.pat)).set (k := 4) (by simp) (.slice a x.ver.pre.length c)).set (k := 5) (by simp) (.int .i64 x.dig)).drew
  replace P := ((((((P.far (a := ⟨w.heap.size, 0, none⟩) (by dsimp only; omega) (.int .i64 x.pk)).far (a := ⟨w.heap.size, 1, none⟩) (by dsimp only; omega) (.int .i64 x.ver.maj)).far (a := ⟨w.heap.size, 2, none⟩) (by dsimp only; omega) (.int .i64 x.ver.min)).far (a := ⟨w.heap.size, 3, none⟩) (by dsimp only; omega) (.int .i64 x.ver.pat)).far (a := ⟨w.heap.size, 4, none⟩) (by dsimp only; omega) (.slice a x.ver.pre.length c)).far (a := ⟨w.heap.size, 5, none⟩) (by dsimp only; omega) (.int .i64 x.dig)).drew
  replace VB := ((((((VB.far (a := ⟨w.heap.size, 0, none⟩) (by dsimp only; omega) (.int .i64 x.pk)).far (a := ⟨w.heap.size, 1, none⟩) (by dsimp only; omega) (.int .i64 x.ver.maj)).far (a := ⟨w.heap.size, 2, none⟩) (by dsimp only; omega) (.int .i64 x.ver.min)).far (a := ⟨w.heap.size, 3, none⟩) (by dsimp only; omega) (.int .i64 x.ver.pat)).far (a := ⟨w.heap.size, 4, none⟩) (by dsimp only; omega) (.slice a x.ver.pre.length c)).far (a := ⟨w.heap.size, 5, none⟩) (by dsimp only; omega) (.int .i64 x.dig)).drew
  replace FB := ((((((FB.far (a := ⟨w.heap.size, 0, none⟩) (by dsimp only; omega) (.int .i64 x.pk)).far (a := ⟨w.heap.size, 1, none⟩) (by dsimp only; omega) (.int .i64 x.ver.maj)).far (a := ⟨w.heap.size, 2, none⟩) (by dsimp only; omega) (.int .i64 x.ver.min)).far (a := ⟨w.heap.size, 3, none⟩) (by dsimp only; omega) (.int .i64 x.ver.pat)).far (a := ⟨w.heap.size, 4, none⟩) (by dsimp only; omega) (.slice a x.ver.pre.length c)).far (a := ⟨w.heap.size, 5, none⟩) (by dsimp only; omega) (.int .i64 x.dig)).drew
  clear R_c R_f R_l P_c P_f P_l VB_c VB_f VB_l FB_c FB_f FB_l
  generalize ((((((w4.setCell ⟨w.heap.size, 0, none⟩ (.int .i64 x.pk)).setCell ⟨w.heap.size, 1, none⟩ (.int .i64 x.ver.maj)).setCell ⟨w.heap.size, 2, none⟩ (.int .i64 x.ver.min)).setCell ⟨w.heap.size, 3, none⟩ (.int .i64 x.ver.pat)).setCell ⟨w.heap.size, 4, none⟩ (.slice a x.ver.pre.length c)).setCell ⟨w.heap.size, 5, none⟩ (.int .i64 x.dig)).drew = w5 at *
  have s5 : w.heap.size ≤ w5.heap.size := B5.size
  obtain ⟨R_c, R_f, R_l⟩ := id R
  obtain ⟨P_c, P_f, P_l⟩ := id P
  obtain ⟨VB_c, VB_f, VB_l⟩ := id VB
  obtain ⟨FB_c, FB_f, FB_l⟩ := id FB
  refine bodyPost_ret (v := .tuple #[.agg #[.int .i64 x.pk, .int .i64 x.ver.maj, .int .i64 x.ver.min, .int .i64 x.ver.pat, .slice a x.ver.pre.length c, .int .i64 x.dig], .bool true]) (by simp [results, Tryz.results24, go_sem, R_c]) rfl ⟨a, c, rfl, V.out, Q.out.mono (fun b h => by omega), by go_grown⟩
end Go.Proofs.YtgngehfgcogceaaGreatDoor

end
section
/- Contract: good lines are read (lockfile.Read). -/
namespace Go.Proofs.YtgngehfgcogceaaGreatDoor
open Go.RowKit

/-- One entry of one's own is put behind the others. -/
theorem ap1l {ops : Array Oper} {rest : List Oper} {o : Oper} {a : Act} {Q : Exit → Act → World → Prop} {w : World} (hgd : o.guard = none) {s x : Operand}
    (ho : o.op = .call { callee := .builtin .append, args := #[s, x], argTypes := #[33, 33] })
    {e' : TypeId} {B : Nat} {v : Value} {n : Nat} {r : List Pl.Ent} (hs : a.eval s = v) (hown : LOwn w B r v n) {y : Pl.Ent}
    {c : Nat} {C : List Value} (hx : a.eval x = .slice (some ⟨w.heap.size, 0, none⟩) 1 c) (hy : EnQ w (fun b => some b ≠ v.ownBlock) y C) (hn : n ≤ 1000001) (hbase : B ≤ w.heap.size)
    (h : ∀ v' w', LOwn w' B (r ++ [y]) v' (n + 1) → Below B w w' → w.heap.size < w'.heap.size → wpList Tryz.prog ops Q rest (a.put o.dst v') w') : wpList Tryz.prog ops Q (o :: rest) a (w.alloc (.cells C.toArray e')) := by
  have hA := hown.alloc (.cells C.toArray e')
  obtain ⟨cs, own0, el0⟩ := hA.mem
  have hy' := hy.below (w' := w.alloc (.cells C.toArray e')) ((Below.refl w.heap.size w).alloc (Nat.le_refl _) _) (Nat.le_refl _)
  refine apx hgd ho Tryz.tEnt hs own0 (m := 1) (news := C) ?_ (by omega) (by simp; omega) fun v' w' h2 h3 h4 => h v' w' (LOwn.app hA.len el0 hy' h2 h3 h4) (((Below.refl _ _).alloc hbase _).trans (grown_below h3 own0 (by simp; omega)) ) (by have := h3.size; simp at this; omega)
  rw [hx]
  refine Src.ofSlice _ Tryz.tEnt.ht _ _ _ _ hy.is.len (fun j u hu => by rw [addr_add]; simp [hu]) ?_
  obtain ⟨a1, c1, rfl, -⟩ := hy.is
  intro u hu
  simp only [List.mem_cons, List.not_mem_nil, or_false] at hu
  rcases hu with rfl | rfl | rfl | rfl | rfl | rfl <;> rfl
set_option maxRecDepth 100000 in
set_option maxHeartbeats 4000000 in
theorem lockRead_good (l : List Pl.Ent) (a : Option Addr) (c : Nat) (w : World) (h : Sl w a l.length c 1 (strVals (l.map Pl.entS))) (E : Env w) (ok : Pl.EntsOk l) :
    Calls Tryz.prog 9 #[.slice a l.length c] w fun e w' => ∃ o m, e = .returned (.tuple #[.slice o l.length m, .agg #[.int .i64 0, .int .i64 0]]) ∧ LIn w' l o m ∧ Below w.heap.size w w' := by
  have hn := ok.len
  have t1 : decide ((6 : Int) < (l.length : Int)) = false := by simp; omega
  have OK := Lib.hid ok
  have H := Lib.hid h
  have HE := Lib.hid E
  have CV := Lib.hid (fun (W : World) (a : Option Addr) (c : Nat) (g1 : LIn W l a c) => lockValidate_good l a c W g1 ok)
  clear h ok E
  go_enter Tryz.func9, Tryz.ntmps9
  have B0 : Below w.heap.size w w := Below.refl _ _
  go_wp2_with fail
  have R := Bk.new (r := w.heap.size) (cs := [.int .i64 0, .int .i64 0]) w 30 rfl
  go_loopw [4, 16] (fun v i wr => ∃ k : Nat, k ≤ l.length ∧ i = .int .i64 k ∧ LOwn wr (w.heap.size + 1) (l.take k) v k ∧ Bk wr w.heap.size [.int .i64 0, .int .i64 0] ∧ Below w.heap.size w wr) (fun _ i _ => l.length - (intOf i).toNat)
  case atStart => exact ⟨0, Nat.zero_le _, rfl, LOwn.nil _ _, R, by go_grown⟩
  case round =>
    clear R
    obtain ⟨k, hk, rfl, OW, R, B1⟩ := hrel
    obtain ⟨o, m, rfl⟩ := OW.slice
    have s1 : w.heap.size ≤ wr.heap.size := B1.size
    have s1b := R.lt
    obtain ⟨R_c, R_f, R_l⟩ := id R
    by_cases hlt2 : k < l.length
    · obtain ⟨b, off, rfl, hlt, hat⟩ := Sl.strAt (xs := l.map Pl.entS) (by rw [List.length_map]; exact H.out.below B1 (Nat.le_refl _)) (by rw [List.length_map]; omega)
      have e0 := hat k (by rw [List.length_map]; exact hlt2)
      rw [List.getElem_map] at e0
      have OX := Lib.hid (OK.out.each _ (List.getElem_mem hlt2))
      have HT := Lib.hid (List.take_succ_eq_append_getElem hlt2)
      have hg0 := Lib.hid (show ∀ g, (Value.slice o k m).ownBlock = some g → g < wr.heap.size from fun g hg => by obtain ⟨cs, h1, _⟩ := OW.mem; exact (h1.lt g hg).2)
      replace OW := Lib.hid OW
      clear hat
      have tz : decide (k < l.length) = true := by simp; omega
      have ty : decide ((k : Int) < (l.length : Int)) = true := by simp; omega
      generalize l[k] = x at *
      go_wp2_with fail
      refine (entry_good x _ (HE.out.below (by go_grown) (Nat.le_refl _)) OX.out).mono ?_
      rintro e w2 ⟨a1, c1, rfl, V, Q, hb⟩
      have B2 : Below w.heap.size w w2 := bcall (by go_grown) hb (by go_size)
      have q2 : wr.heap.size + 0 ≤ w2.heap.size := by have z := hb.size; (try simp only [World.size_alloc, World.size_setCell, World.size_drew] at z); omega
      replace OW := Lib.hid (OW.out.below hb (Nat.le_refl _))
      replace R := (R).below hb (by go_size)
      clear hb
      have s2 : w.heap.size ≤ w2.heap.size := B2.size
      clear R_c R_f R_l
      obtain ⟨R_c, R_f, R_l⟩ := id R
      clear e0
      have V := Lib.hid V
      have Q := Lib.hid (Q.mono (R := fun b => some b ≠ (Value.slice o k m).ownBlock) (fun b h e => by have := hg0.out b e.symm; omega))
      have OWY := OW.out.alloc (.cells #[.int .i64 x.pk, .int .i64 x.ver.maj, .int .i64 x.ver.min, .int .i64 x.ver.pat, .slice a1 x.ver.pre.length c1, .int .i64 x.dig] 50)
      have QY : EnQ (w2.alloc (.cells #[.int .i64 x.pk, .int .i64 x.ver.maj, .int .i64 x.ver.min, .int .i64 x.ver.pat, .slice a1 x.ver.pre.length c1, .int .i64 x.dig] 50)) (fun b => some b ≠ (Value.slice o k m).ownBlock) x [.int .i64 x.pk, .int .i64 x.ver.maj, .int .i64 x.ver.min, .int .i64 x.ver.pat, .slice a1 x.ver.pre.length c1, .int .i64 x.dig] := ⟨a1, c1, rfl, V.out.below (Below.refl _ _ |>.alloc (Nat.le_refl _) (.cells #[.int .i64 x.pk, .int .i64 x.ver.maj, .int .i64 x.ver.min, .int .i64 x.ver.pat, .slice a1 x.ver.pre.length c1, .int .i64 x.dig] 50)) (Nat.le_refl _), Q.out⟩
      have RY := R.alloc (.cells #[.int .i64 x.pk, .int .i64 x.ver.maj, .int .i64 x.ver.min, .int .i64 x.ver.pat, .slice a1 x.ver.pre.length c1, .int .i64 x.dig] 50)
      have BY := B2.alloc s2 (.cells #[.int .i64 x.pk, .int .i64 x.ver.maj, .int .i64 x.ver.min, .int .i64 x.ver.pat, .slice a1 x.ver.pre.length c1, .int .i64 x.dig] 50)
      have q8 : w.heap.size + 1 ≤ (w2.alloc (.cells #[.int .i64 x.pk, .int .i64 x.ver.maj, .int .i64 x.ver.min, .int .i64 x.ver.pat, .slice a1 x.ver.pre.length c1, .int .i64 x.dig] 50)).heap.size := by simp; omega
      have q9 : (w2.alloc (.cells #[.int .i64 x.pk, .int .i64 x.ver.maj, .int .i64 x.ver.min, .int .i64 x.ver.pat, .slice a1 x.ver.pre.length c1, .int .i64 x.dig] 50)).heap.size = w2.heap.size + 1 := by simp
      go_wp2_with (at_builtin; go_loud (refine ap1l (by rfl) (by rfl) (by rfl) OWY (c := 1) (C := [.int .i64 x.pk, .int .i64 x.ver.maj, .int .i64 x.ver.min, .int .i64 x.ver.pat, .slice a1 x.ver.pre.length c1, .int .i64 x.dig]) (by rw [q9]; rfl) QY (by omega) q8 ?_); intro v7 w7 NEW hb7 hs7; obtain ⟨o7, c7, rfl⟩ := NEW.slice; have R7 := RY.below hb7 (by omega); have B7 : Below w.heap.size w w7 := bcall BY hb7 (by omega); rw [← HT.out] at NEW)
      go_roundw
      case rel => exact ⟨k + 1, hlt2, by go_num, NEW, R7, B7⟩
      case measure => simp [intOf]; omega
    · obtain rfl : k = l.length := by omega
      have tz : decide (l.length < l.length) = false := by simp
      have ty : decide ((l.length : Int) < (l.length : Int)) = false := by simp
      rw [List.take_length] at OW
      replace OW := Lib.hid OW
      go_wp2_with fail
      refine (CV.out _ o m OW.out.lin).mono ?_
      rintro e w2 ⟨rfl, hb⟩
      have B2 : Below w.heap.size w w2 := bcall (by go_grown) hb (by go_size)
      have q2 : wr.heap.size + 0 ≤ w2.heap.size := by have z := hb.size; (try simp only [World.size_alloc, World.size_setCell, World.size_drew] at z); omega
      replace OW := Lib.hid (OW.out.below hb (Nat.le_refl _))
      replace R := (R).below hb (by go_size)
      clear hb
      have s2 : w.heap.size ≤ w2.heap.size := B2.size
      clear R_c R_f R_l
      obtain ⟨R_c, R_f, R_l⟩ := id R
      go_wp2_with fail
      have LN := (((OW.out.far (by dsimp only; omega) (R.c 0) (fun _ h => by cases h) (.int .i64 0)).far (by dsimp only; omega) ((R.set (k := 0) (by simp) (.int .i64 0)).c 1) (fun _ h => by cases h) (.int .i64 0)).below (Below.refl _ _ |>.alloc (Nat.le_refl _) (.cells #[.int .i64 0, .int .i64 0] 30)) (Nat.le_refl _))
      have RN := (((R.set (k := 0) (by simp) (.int .i64 0)).set (k := 1) (by simp) (.int .i64 0)).alloc (.cells #[.int .i64 0, .int .i64 0] 30))
      obtain ⟨RN_c, RN_f, RN_l⟩ := RN
      refine bodyPost_ret (v := .tuple #[.slice o l.length m, .agg #[.int .i64 0, .int .i64 0]]) (by simp [results, Tryz.results9, go_sem, RN_c]) rfl ⟨o, m, rfl, LN.lin, by go_grown⟩
end Go.Proofs.YtgngehfgcogceaaGreatDoor

end
section
/- Contract: kernVast answers. -/
namespace Go.Proofs.YtgngehfgcogceaaGreatDoor
open Go.RowKit

set_option maxRecDepth 100000 in
set_option maxHeartbeats 8000000 in
theorem kernVast_any (u : Pl.Uni) (ws : List Pl.Need) (a b : Option Addr) (c d : Nat) (w : World) (h1 : UIn w u a c) (h2 : NsIn w ws b d) : Calls Tryz.prog 5 #[.agg #[.slice a u.length c], .slice b ws.length d] w fun e w' => (∃ g : Bool, e = .returned (.bool g)) ∧ Below w.heap.size w w' := by
  have H := Lib.hid h1
  have hm := h1.len
  have hm2 := h2.len
  clear h1 h2
  go_enter Tryz.func5, Tryz.ntmps5
  go_wp2_with fail
  go_loopw [5] (fun i wr => ∃ k : Nat, k ≤ u.length ∧ i = .int .i64 k ∧ Bk wr w.heap.size [.slice a u.length c] ∧ Below w.heap.size w wr) (fun i _ => u.length - (intOf i).toNat)
  case atStart => exact ⟨0, Nat.zero_le _, rfl, Bk.new (cs := [.slice a u.length c]) _ _ rfl, by go_grown⟩
  case round =>
    obtain ⟨p, hp, rfl, X, B9⟩ := hrel
    have s9 := B9.size
    obtain ⟨X_c, X_f, X_l⟩ := id X
    by_cases hlt2 : p < u.length
    · skip
      have t5 : decide ((p : Int) < (u.length : Int)) = true := decT (by omega)
      have t51 : decide (p < u.length) = true := decT (by omega)
      by_cases h20 : p < 20
      · skip
        have t6 : decide ((p : Int) < (20 : Int)) = true := decT (by omega)
        have t61 : decide (p < 20) = true := decT (by omega)
        have i1 : (p : Int) < (u.length : Int) := by omega
        obtain ⟨bb, off, rfl, hltb, hat⟩ := H.out.at (by omega)
        obtain ⟨a1, c1, I0⟩ := hat p hlt2
        clear hat
        have hml := I0.rs.len
        replace I0 := Lib.hid I0
        generalize u[p] = l at *
        have y0 := (B9.cell (p := ⟨bb, off + p, none⟩) hltb).trans I0.out.e0
        have hltv : bb < wr.heap.size := by omega
        go_wp2_with fail
        clear X_c X_f X_l y0 hltv
        go_loopw [6] (fun i wr => ∃ k : Nat, k ≤ l.length ∧ i = .int .i64 k ∧ Bk wr w.heap.size [.slice (some ⟨bb, off, none⟩) u.length c] ∧ Below w.heap.size w wr) (fun i _ => l.length - (intOf i).toNat)
        case atStart => exact ⟨0, Nat.zero_le _, rfl, X, B9⟩
        case round =>
          obtain ⟨k, hk, rfl, X, B9⟩ := hrel
          have s9 := B9.size
          obtain ⟨X_c, X_f, X_l⟩ := id X
          have y0 := (B9.cell (p := ⟨bb, off + p, none⟩) hltb).trans I0.out.e0
          have hltv : bb < wr.heap.size := by omega
          by_cases hlt3 : k < l.length
          · skip
            have u5 : decide ((k : Int) < (l.length : Int)) = true := decT (by omega)
            have u51 : decide (k < l.length) = true := decT (by omega)
            by_cases h30 : k < 20
            · skip
              have u6 : decide ((k : Int) < (20 : Int)) = true := decT (by omega)
              have u61 : decide (k < 20) = true := decT (by omega)
              have i2 : (k : Int) < (l.length : Int) := by omega
              obtain ⟨br, offr, rfl, hltr, hatr⟩ := I0.out.rs.at (by omega)
              obtain ⟨a3, c3, a4, c4, R0⟩ := hatr k hlt3
              clear hatr
              have n1 := R0.ns.len
              have n2 := R0.v.len
              generalize l[k] = r at *
              obtain ⟨e0, e1, e2, e3, e4, -, -⟩ := R0.below B9 hltr (Nat.le_refl _)
              have hltq : br < wr.heap.size := by omega
              by_cases h31 : r.ns.length > 20
              · skip
                have v1 : decide ((r.ns.length : Int) > 20) = true := decT (by omega)
                have v11 : decide ((20 : Int) < (r.ns.length : Int)) = true := decT (by omega)
                have v12 : decide (20 < r.ns.length) = true := decT (by omega)
                go_wp2_with fail
                go_ret
                exact ⟨⟨_, rfl⟩, B9⟩
              · skip
                have v1 : decide ((r.ns.length : Int) > 20) = false := decF (by omega)
                have v11 : decide ((20 : Int) < (r.ns.length : Int)) = false := decF (by omega)
                have v12 : decide (20 < r.ns.length) = false := decF (by omega)
                by_cases h32 : r.v.pre.length > 40
                · skip
                  have v4 : decide ((r.v.pre.length : Int) > 40) = true := decT (by omega)
                  have v41 : decide ((40 : Int) < (r.v.pre.length : Int)) = true := decT (by omega)
                  have v42 : decide (40 < r.v.pre.length) = true := decT (by omega)
                  go_wp2_with fail
                  go_ret
                  exact ⟨⟨_, rfl⟩, B9⟩
                · skip
                  have v4 : decide ((r.v.pre.length : Int) > 40) = false := decF (by omega)
                  have v41 : decide ((40 : Int) < (r.v.pre.length : Int)) = false := decF (by omega)
                  have v42 : decide (40 < r.v.pre.length) = false := decF (by omega)
                  go_wp2_with fail
                  go_roundw
                  case rel => exact ⟨k + 1, hlt3, by go_num, X, B9⟩
                  case measure => simp [intOf]; omega
            · skip
              have u6 : decide ((k : Int) < (20 : Int)) = false := decF (by omega)
              have u61 : decide (k < 20) = false := decF (by omega)
              have t8 : decide ((l.length : Int) > 20) = true := decT (by omega)
              have t81 : decide ((20 : Int) < (l.length : Int)) = true := decT (by omega)
              have t82 : decide (20 < l.length) = true := decT (by omega)
              go_wp2_with fail
              go_ret
              exact ⟨⟨_, rfl⟩, B9⟩
          · skip
            have u5 : decide ((k : Int) < (l.length : Int)) = false := decF (by omega)
            have u51 : decide (k < l.length) = false := decF (by omega)
            by_cases h21 : l.length > 20
            · skip
              have t8 : decide ((l.length : Int) > 20) = true := decT (by omega)
              have t81 : decide ((20 : Int) < (l.length : Int)) = true := decT (by omega)
              have t82 : decide (20 < l.length) = true := decT (by omega)
              go_wp2_with fail
              go_ret
              exact ⟨⟨_, rfl⟩, B9⟩
            · skip
              have t8 : decide ((l.length : Int) > 20) = false := decF (by omega)
              have t81 : decide ((20 : Int) < (l.length : Int)) = false := decF (by omega)
              have t82 : decide (20 < l.length) = false := decF (by omega)
              go_wp2_with fail
              go_roundw
              case rel => exact ⟨p + 1, hlt2, by go_num, X, B9⟩
              case measure => simp [intOf]; omega
      · skip
        have t6 : decide ((p : Int) < (20 : Int)) = false := decF (by omega)
        have t61 : decide (p < 20) = false := decF (by omega)
        have t8 : decide ((u.length : Int) > 20) = true := decT (by omega)
        have t81 : decide ((20 : Int) < (u.length : Int)) = true := decT (by omega)
        have t82 : decide (20 < u.length) = true := decT (by omega)
        go_wp2_with fail
        go_ret
        exact ⟨⟨_, rfl⟩, B9⟩
    · skip
      have t5 : decide ((p : Int) < (u.length : Int)) = false := decF (by omega)
      have t51 : decide (p < u.length) = false := decF (by omega)
      by_cases h22 : u.length > 20
      · skip
        have t8 : decide ((u.length : Int) > 20) = true := decT (by omega)
        have t81 : decide ((20 : Int) < (u.length : Int)) = true := decT (by omega)
        have t82 : decide (20 < u.length) = true := decT (by omega)
        go_wp2_with fail
        go_ret
        exact ⟨⟨_, rfl⟩, B9⟩
      · skip
        have t8 : decide ((u.length : Int) > 20) = false := decF (by omega)
        have t81 : decide ((20 : Int) < (u.length : Int)) = false := decF (by omega)
        have t82 : decide (20 < u.length) = false := decF (by omega)
        by_cases h23 : ws.length > 20
        · skip
          have t7 : decide ((ws.length : Int) > 20) = true := decT (by omega)
          have t71 : decide ((20 : Int) < (ws.length : Int)) = true := decT (by omega)
          have t72 : decide (20 < ws.length) = true := decT (by omega)
          go_wp2_with fail
          go_ret
          exact ⟨⟨_, rfl⟩, B9⟩
        · skip
          have t7 : decide ((ws.length : Int) > 20) = false := decF (by omega)
          have t71 : decide ((20 : Int) < (ws.length : Int)) = false := decF (by omega)
          have t72 : decide (20 < ws.length) = false := decF (by omega)
          go_wp2_with fail
          go_ret
          exact ⟨⟨_, rfl⟩, B9⟩
end Go.Proofs.YtgngehfgcogceaaGreatDoor

end
