/- Contract: the program's signers. -/
import Derived.Test.YtldepnabkdpokaaXd
namespace Go.Proofs.Ytldepnabkdpokaa
open Go.RowKit

def RetSig (xs : List Int) (l : List UInt8) (sg : List (Int × Int)) (w : World) (e : Ending) (w' : World) : Prop :=
  ∃ o c, e = .returned (.tuple #[.slice o (Pl.signersV xs l sg).length c, .agg #[.int .i64 (Pl.sigF xs l.length sg).1, .int .i64 (Pl.sigF xs l.length sg).2]]) ∧
    w'.ownsRow w.heap.size 3 1 (.slice o (Pl.signersV xs l sg).length c) (Pl.signersV xs l sg).length (intVals (Pl.signersV xs l sg)) ∧ Below w.heap.size w w'
theorem RetSig.bad {xs : List Int} {l : List UInt8} {sg : List (Int × Int)} {w w' : World} {c i : Int} (h : Pl.sigF xs l.length sg = (c, i)) (hc : c ≠ 0) (hb : Below w.heap.size w w') : RetSig xs l sg w (.returned (.tuple #[.slice none 0 0, .agg #[.int .i64 c, .int .i64 i]])) w' := by
  have hv : Pl.signersV xs l sg = [] := by simp [Pl.signersV, h, hc]
  refine ⟨none, 0, ?_, ?_, hb⟩
  · rw [hv, h]; rfl
  · rw [hv]; exact World.ownsRow_nil _ _ _ _
theorem own_base {w : World} {B B' : Nat} {e : TypeId} {size n : Nat} {v : Value} {xs : List Value} (h : w.ownsRow B e size v n xs) (hB : B' ≤ B) : w.ownsRow B' e size v n xs := by
  refine ⟨h.1, ?_⟩
  rcases h.2 with h0 | ⟨g, c, cur, h1, h2, h3⟩
  · exact .inl h0
  · exact .inr ⟨g, c, cur, h1, by omega, h3⟩
theorem RetSig.ok {xs : List Int} {l : List UInt8} {sg : List (Int × Int)} {w w' : World} {v : Value} (h : Pl.sigF xs l.length sg = (0, 0)) {B : Nat} (hown : w'.ownsRow B 3 1 v (Pl.signers xs l sg).length (intVals (Pl.signers xs l sg))) (hB : w.heap.size ≤ B) (hb : Below w.heap.size w w') : RetSig xs l sg w (.returned (.tuple #[v, .agg #[.int .i64 0, .int .i64 0]])) w' := by
  obtain ⟨oa, cap, rfl⟩ := own_slice hown
  have hv : Pl.signersV xs l sg = Pl.signers xs l sg := by simp [Pl.signersV, h]
  refine ⟨oa, cap, ?_, ?_, hb⟩
  · rw [hv, h]
  · rw [hv]; exact own_base hown hB

/-- 'ap1', the new block's number given. -/
theorem ap1g {P : Program} {w : World} {ops : Array Oper} {rest : List Oper} {o : Oper} {a : Act} {Q : Exit → Act → World → Prop} (hgd : o.guard = none) {s x : Operand} {t : TypeId}
    (ho : o.op = .call { callee := .builtin .append, args := #[s, x], argTypes := #[t, t] })
    {e e' : TypeId} {size bytes : Nat} (T : ElemT P t e size bytes) {B : Nat} {w0 : World} (hB : Below B w0 w) {v : Value} {n : Nat} {xs : List Value} (hs : a.eval s = v) (hown : w.ownsRow B e size v n xs)
    {g m c : Nat} {C : List Value} (hg : g = w.heap.size) (hx : a.eval x = .slice (some ⟨g, 0, none⟩) m c) (hl : C.length = m * size) (h1 : C.all (fun u => u.oneCell') = true) (hbytes : (n + m) * bytes ≤ 140737488355328) (hbase : B ≤ w.heap.size)
    (h : ∀ v' w', w'.ownsRow B e size v' (n + m) (xs ++ C) → Below B w0 w' → w.heap.size < w'.heap.size → wpList P ops Q rest (a.put o.dst v') w') : wpList P ops Q (o :: rest) a (w.alloc (.cells C.toArray e')) := by
  subst hg
  exact ap1 hgd ho T hB hs hown hx hl h1 hbytes hbase h

set_option maxHeartbeats 2000000 in
theorem Signers_ok (xs : List Int) (l : List UInt8) (sg : List (Int × Int)) (oa ob oc : Option Addr) (ca cb cc : Nat) (w : World) (hs : Sl w oa xs.length ca 1 (intVals xs)) (hF : Pl.keysF xs = (0, 0)) (hk : Pl.Keys xs)
    (hb : Sl w ob l.length cb 1 (byteVals l)) (hn : l.length ≤ 4096) (hg : Sl w oc sg.length cc 2 (pairVals sg)) (hm : sg.length ≤ 24) :
    Calls Try.prog 8 #[.slice oa xs.length ca, .slice ob l.length cb, .slice oc sg.length cc] w (RetSig xs l sg w) := by
  have hl := hk.len
  have e : Pl.sigF xs l.length sg = match sg.findIdx? (fun s => !Pl.sigB s) with | some i => (3, (xs.length : Int) + (i : Int)) | none => (0, 0) := by unfold Pl.sigF; rw [hF, if_pos rfl, if_pos hn, if_pos hm]; cases sg.findIdx? (fun s => !Pl.sigB s) <;> rfl
  have HE := Lib.hid e
  have HF := Lib.hid hF
  have HK := Lib.hid hk
  clear e hF hk
  go_enter Try.func8, Try.ntmps8
  go_wp2_with fail
  refine (checkKeys_any xs oa ca _ (hs.below ((Below.refl _ _).alloc (Nat.le_refl _) _) (Nat.le_refl _)) (by omega)).mono ?_
  rw [HF.out]
  rintro e w1 ⟨rfl, hb1⟩
  have B1 : Below w.heap.size w w1 := bcall (by go_grown) hb1 (by simp)
  have s1 := B1.size
  have X1 := ((Box2.new w (.int .i64 0) (.int .i64 0) 27).below hb1 (by simp)).alloc (.cells #[.int .i64 0, .int .i64 0] 27)
  have B2 := B1.alloc s1 (.cells #[.int .i64 0, .int .i64 0] 27)
  have hg2 := hg.below B2 (Nat.le_refl _)
  have hs2 := hs.below B2 (Nat.le_refl _)
  have hb2 := hb.below B2 (Nat.le_refl _)
  have s2 := B2.size
  go_wp2_with fail
  generalize hW : w1.alloc (.cells #[.int .i64 0, .int .i64 0] 27) = W at *
  clear hW
  go_loopw [34] (fun i wr => ∃ k : Nat, k ≤ sg.length ∧ i = .int .i64 k ∧ UpTo Pl.sigB sg k ∧ Below W.heap.size W wr) (fun i _ => sg.length - (intOf i).toNat)
  case atStart => exact ⟨0, Nat.zero_le _, rfl, UpTo.zero _ _, Below.refl _ _⟩
  case round =>
    obtain ⟨k, hk, rfl, hu, hbi⟩ := hrel
    have B3 : Below w.heap.size w wr := bcall B2 hbi s2
    have s3 := B3.size
    have sW := hbi.size
    obtain ⟨c0, c1, f0, f1, l1⟩ := X1.below hbi X1.lt
    by_cases hlt2 : k < sg.length
    · rcases hg2.mem with h0 | ⟨b2, off2, rfl, hltg, hcg⟩
      · have := pairVals_length sg
        rw [h0] at this
        simp at this
        omega
      · obtain ⟨g0, g1⟩ := pairVals_get sg k hlt2
        have e0 : wr.cell? ⟨b2, off2 + k * 2, none⟩ = some (.int .i64 sg[k].1) := by
          rw [hbi.cell (p := ⟨b2, off2 + k * 2, none⟩) hltg]
          exact hcg _ _ g0
        have e1 : wr.cell? ⟨b2, off2 + k * 2 + 1, none⟩ = some (.int .i64 sg[k].2) := by
          rw [hbi.cell (p := ⟨b2, off2 + k * 2 + 1, none⟩) hltg]
          exact hcg _ _ g1
        clear hcg g0 g1
        by_cases hk1 : Pl.isKeyB sg[k].1 = true
        · by_cases hd1 : Pl.isDigestB sg[k].2 = true
          · go_wp2_with (first | (go_at_call 27; refine (isKey_any _ _).mono ?_; rintro e w' ⟨rfl, rfl⟩) | (go_at_call 31; refine (isDigest_any _ _).mono ?_; rintro e w' ⟨rfl, rfl⟩))
            go_roundw
            case rel => exact ⟨k + 1, hlt2, by go_num, hu.succ hlt2 (by simp [Pl.sigB, hk1, hd1]), hbi.alloc sW _⟩
            case measure => simp [intOf]; omega
          · have hd1 : Pl.isDigestB sg[k].2 = false := by simpa using hd1
            have E := Lib.hid (show Pl.sigF xs l.length sg = (3, (xs.length : Int) + (k : Int)) by rw [HE.out, hu.bad hlt2 (by simp [Pl.sigB, hk1, hd1])])
            go_wp2_with (first | (go_at_call 27; refine (isKey_any _ _).mono ?_; rintro e w' ⟨rfl, rfl⟩) | (go_at_call 31; refine (isDigest_any _ _).mono ?_; rintro e w' ⟨rfl, rfl⟩))
            refine bodyPost_ret (v := .tuple #[.slice none 0 0, .agg #[.int .i64 3, .int .i64 ((xs.length : Int) + (k : Int))]]) (by simp [results, Try.results8, go_sem, c0, c1, l1]) rfl (RetSig.bad E.out (by decide) (by go_grown))
        · have hk1 : Pl.isKeyB sg[k].1 = false := by simpa using hk1
          have E := Lib.hid (show Pl.sigF xs l.length sg = (3, (xs.length : Int) + (k : Int)) by rw [HE.out, hu.bad hlt2 (by simp [Pl.sigB, hk1])])
          go_wp2_with (first | (go_at_call 27; refine (isKey_any _ _).mono ?_; rintro e w' ⟨rfl, rfl⟩) | (go_at_call 31; refine (isDigest_any _ _).mono ?_; rintro e w' ⟨rfl, rfl⟩))
          refine bodyPost_ret (v := .tuple #[.slice none 0 0, .agg #[.int .i64 3, .int .i64 ((xs.length : Int) + (k : Int))]]) (by simp [results, Try.results8, go_sem, c0, c1, l1]) rfl (RetSig.bad E.out (by decide) (by go_grown))
    · obtain rfl : k = sg.length := by omega
      have E := Lib.hid (show Pl.sigF xs l.length sg = (0, 0) by rw [HE.out, hu.all])
      clear HE hu hk hlt2 c0 c1 f0 f1 l1
      rcases hs2.mem with h0 | ⟨b, off, rfl, hlt, hc⟩
      · have hl0 : xs = [] := by simpa [intVals] using h0
        subst hl0
        obtain ⟨c0, c1, f0, f1, l1⟩ := X1.below hbi X1.lt
        go_wp2_with fail
        go_rounds 1
        refine bodyPost_ret (v := .tuple #[.slice none 0 0, .agg #[.int .i64 0, .int .i64 0]]) (by simp [results, Try.results8, go_sem, c0, c1]) rfl (RetSig.ok E.out (B := w.heap.size) (World.ownsRow_nil _ _ _ _) (Nat.le_refl _) (by go_grown))
      · obtain ⟨wi, rfl⟩ : ∃ wi : World, wi = wr := ⟨_, rfl⟩
        go_wp2_with fail
        go_loopw [11, 57] (fun v i wr => ∃ k : Nat, k ≤ xs.length ∧ i = .int .i64 k ∧ wr.ownsRow W.heap.size 3 1 v (Pl.signers (xs.take k) l sg).length (intVals (Pl.signers (xs.take k) l sg)) ∧ Below W.heap.size W wr) (fun _ i _ => xs.length - (intOf i).toNat)
        case atStart => exact ⟨0, Nat.zero_le _, rfl, World.ownsRow_nil _ _ _ _, hbi⟩
        case round =>
          obtain ⟨k, hk, rfl, hown, hbw⟩ := hrel
          have hsz := hbw.size
          by_cases hlt2 : k < xs.length
          · have hcell : wr.cell? ⟨b, off + k, none⟩ = some (.int .i64 xs[k]) := by
              rw [hbw.cell (p := ⟨b, off + k, none⟩) hlt]
              exact hc k _ (intVals_get xs k hlt2)
            have hkey := Lib.hid (HK.out.mem (List.getElem_mem hlt2))
            have HS := Lib.hid (Pl.signers_take xs l sg k hlt2)
            have hle := Pl.signers_le xs l sg k
            clear hc
            generalize hN : xs[k] = N at *
            have HN := Lib.hid hN
            clear hN
            go_wp2_with fail
            refine (Sign_ok N l ob cb _ (hb2.below hbw (Nat.le_refl _)) hkey.out hn).mono ?_
            rintro e w5 ⟨rfl, hb5⟩
            have hb6 := bcall hbw hb5 hsz
            have s6 := hb6.size
            have hown5 := (ownsRow_below hown hb5 (Nat.le_refl _)).alloc (.cells #[.int .i64 0, .int .i64 0] 27)
            have hb7 := hb6.alloc s6 (.cells #[.int .i64 0, .int .i64 0] 27)
            have s7 := hb7.size
            clear hcell hown hb5 hb6
            generalize hSg : Pl.signS N l = S at *
            have HSg := Lib.hid hSg
            clear hSg
            go_wp2_with fail
            generalize hV : w5.alloc (.cells #[.int .i64 0, .int .i64 0] 27) = V at *
            clear hV
            go_loopw [11, 69] (fun v j wr => ∃ q : Nat, q ≤ sg.length ∧ j = .int .i64 q ∧ v = u11 ∧ Hid ((sg.take q).any (Pl.signedBy l N) = false) ∧ Below V.heap.size V wr) (fun _ j _ => sg.length - (intOf j).toNat)
            case atStart => exact ⟨0, Nat.zero_le _, rfl, rfl, rfl, Below.refl _ _⟩
            case round =>
              obtain ⟨q, hq, rfl, rfl, ht, hbv⟩ := hrel
              have sV := hbv.size
              have hb8 := bcall hb7 hbv s7
              have s8 := hb8.size
              by_cases hlt3 : q < sg.length
              · rcases hg2.mem with h0 | ⟨b2, off2, rfl, hltg, hcg⟩
                · have := pairVals_length sg
                  rw [h0] at this
                  simp at this
                  omega
                · obtain ⟨g0, g1⟩ := pairVals_get sg q hlt3
                  have HT := Lib.hid (Pl.any_take_succ (Pl.signedBy l N) sg q hlt3)
                  have e0 : wr.cell? ⟨b2, off2 + q * 2, none⟩ = some (.int .i64 sg[q].1) := by
                    rw [hb8.cell (p := ⟨b2, off2 + q * 2, none⟩) hltg]
                    exact hcg _ _ g0
                  have e1 : wr.cell? ⟨b2, off2 + q * 2 + 1, none⟩ = some (.int .i64 sg[q].2) := by
                    rw [hb8.cell (p := ⟨b2, off2 + q * 2 + 1, none⟩) hltg]
                    exact hcg _ _ g1
                  clear hcg g0 g1
                  by_cases hke : sg[q].1 = N
                  · have tk : (sg[q].1 == N) = true := by simp [hke]
                    by_cases hse : sg[q].2 = S
                    · have ts : (sg[q].2 == S) = true := by simp [hse]
                      have HA := Lib.hid (show Pl.hasSigned l sg N = true by
                        rw [Pl.hasSigned_eq, List.any_eq_true]
                        exact ⟨sg[q], List.getElem_mem hlt3, by unfold Pl.signedBy; rw [HSg.out, tk, ts]; rfl⟩)
                      clear hke hse
                      have hown8 := (ownsRow_below hown5 hbv (Nat.le_refl _)).alloc (.cells #[.int .i64 sg[q].1, .int .i64 sg[q].2] 36)
                      have hb9 := hb8.alloc s8 (.cells #[.int .i64 sg[q].1, .int .i64 sg[q].2] 36)
                      have s9 := hb9.size
                      go_wp2_with (at_builtin; refine ap1g (by rfl) (by rfl) Try.tInts hb9 (by rfl) hown8 (g := wr.heap.size + 1) (m := 1) (by simp) (by rfl) (by rfl) (by rfl) (by omega) s9 ?_; intro v1 w4 hown4 hb4 hsz4)
                      refine ⟨⟨k + 1, hlt2, by go_num, by rw [HS.out, if_pos HA.out, intVals_append, List.length_append]; exact hown4, hb4⟩, ?_⟩
                      simp [intOf]
                      omega
                    · have ts : (sg[q].2 == S) = false := by simp [hse]
                      clear hke hse
                      go_wp2_with fail
                      go_roundw
                      case rel => exact ⟨q + 1, hlt3, by go_num, rfl, show _ = false by rw [HT.out, ht.out]; unfold Pl.signedBy; rw [HSg.out, tk, ts]; rfl, hbv.alloc sV _⟩
                      case measure => simp [intOf]; omega
                  · have tk : (sg[q].1 == N) = false := by simp [hke]
                    clear hke
                    go_wp2_with fail
                    go_roundw
                    case rel => exact ⟨q + 1, hlt3, by go_num, rfl, show _ = false by rw [HT.out, ht.out]; unfold Pl.signedBy; rw [tk]; rfl, hbv.alloc sV _⟩
                    case measure => simp [intOf]; omega
              · have HA := Lib.hid (show Pl.hasSigned l sg N = false by
                  rw [Pl.hasSigned_eq, ← ht.out, show q = sg.length by omega, List.take_length])
                have hown8 := ownsRow_below hown5 hbv (Nat.le_refl _)
                clear hown5
                go_wp2_with fail
                go_roundw
                case rel => exact ⟨k + 1, hlt2, by go_num, by rw [HS.out, if_neg (by rw [HA.out]; decide), List.append_nil]; exact hown8, hb8⟩
                case measure => simp [intOf]; omega
          · obtain rfl : k = xs.length := by omega
            rw [List.take_length] at hown
            have B5 : Below w.heap.size w wr := bcall B2 hbw s2
            have s5 := B5.size
            obtain ⟨c0, c1, f0, f1, l1⟩ := X1.below hbw X1.lt
            have hown5 := ownsRow_setCell_below (ownsRow_setCell_below hown (a := ⟨w.heap.size, 0, none⟩) X1.lt (.int .i64 0)) (a := ⟨w.heap.size, 1, none⟩) X1.lt (.int .i64 0)
            go_wp2_with fail
            refine bodyPost_ret (by simp [results, Try.results8, go_sem, c0, c1]) rfl (RetSig.ok E.out hown5 s2 (by go_grown))

/-- The program's signers, whatever the arguments. -/
theorem Signers_any (xs : List Int) (l : List UInt8) (sg : List (Int × Int)) (oa ob oc : Option Addr) (ca cb cc : Nat) (w : World) (hs : Sl w oa xs.length ca 1 (intVals xs)) (hm : xs.length ≤ 9223372036854775807)
    (hb : Sl w ob l.length cb 1 (byteVals l)) (hm2 : l.length ≤ 9223372036854775807) (hg : Sl w oc sg.length cc 2 (pairVals sg)) (hm3 : sg.length ≤ 9223372036854775807) :
    Calls Try.prog 8 #[.slice oa xs.length ca, .slice ob l.length cb, .slice oc sg.length cc] w (RetSig xs l sg w) := by
  rcases Pl.keysF_cases xs with ⟨hF, hk⟩ | hF
  · by_cases hn : l.length ≤ 4096
    · by_cases hl : sg.length ≤ 24
      · exact Signers_ok xs l sg oa ob oc ca cb cc w hs hF hk hb hn hg hl
      · have E := Lib.hid (show Pl.sigF xs l.length sg = (2, -3) by unfold Pl.sigF; rw [hF, if_pos rfl, if_pos hn, if_neg hl])
        have HF := Lib.hid hF
        clear hF hk
        go_enter Try.func8, Try.ntmps8
        go_wp2_with fail
        refine (checkKeys_any xs oa ca _ (hs.below ((Below.refl _ _).alloc (Nat.le_refl _) _) (Nat.le_refl _)) (by omega)).mono ?_
        rw [HF.out]
        rintro e w1 ⟨rfl, hb1⟩
        have B1 : Below w.heap.size w w1 := bcall (by go_grown) hb1 (by simp)
        obtain ⟨c0, c1, f0, f1, l1⟩ := (Box2.new w (.int .i64 0) (.int .i64 0) 27).below hb1 (by simp)
        have s1 := B1.size
        go_wp2_with fail
        refine bodyPost_ret (v := .tuple #[.slice none 0 0, .agg #[.int .i64 2, .int .i64 (-3)]]) (by simp [results, Try.results8, go_sem, c0, c1, l1]) rfl (RetSig.bad E.out (by decide) (by go_grown))
    · have E := Lib.hid (show Pl.sigF xs l.length sg = (2, -2) by unfold Pl.sigF; rw [hF, if_pos rfl, if_neg hn])
      have HF := Lib.hid hF
      clear hF hk
      go_enter Try.func8, Try.ntmps8
      go_wp2_with fail
      refine (checkKeys_any xs oa ca _ (hs.below ((Below.refl _ _).alloc (Nat.le_refl _) _) (Nat.le_refl _)) (by omega)).mono ?_
      rw [HF.out]
      rintro e w1 ⟨rfl, hb1⟩
      have B1 : Below w.heap.size w w1 := bcall (by go_grown) hb1 (by simp)
      obtain ⟨c0, c1, f0, f1, l1⟩ := (Box2.new w (.int .i64 0) (.int .i64 0) 27).below hb1 (by simp)
      have s1 := B1.size
      go_wp2_with fail
      refine bodyPost_ret (v := .tuple #[.slice none 0 0, .agg #[.int .i64 2, .int .i64 (-2)]]) (by simp [results, Try.results8, go_sem, c0, c1, l1]) rfl (RetSig.bad E.out (by decide) (by go_grown))
  · have E := Lib.hid (show Pl.sigF xs l.length sg = Pl.keysF xs by unfold Pl.sigF; rw [if_neg hF])
    generalize hM : Pl.keysF xs = F at *
    have HM := Lib.hid hM
    have u1 : (F.1 != 0) = true := by simp [hF]
    have u2 : (F.1 == 0) = false := by simp [hF]
    have Hne := Lib.hid hF
    clear hM hF
    go_enter Try.func8, Try.ntmps8
    go_wp2_with fail
    refine (checkKeys_any xs oa ca _ (hs.below ((Below.refl _ _).alloc (Nat.le_refl _) _) (Nat.le_refl _)) (by omega)).mono ?_
    rw [HM.out]
    rintro e w1 ⟨rfl, hb1⟩
    have B1 : Below w.heap.size w w1 := bcall (by go_grown) hb1 (by simp)
    obtain ⟨c0, c1, f0, f1, l1⟩ := (Box2.new w (.int .i64 0) (.int .i64 0) 27).below hb1 (by simp)
    have s1 := B1.size
    go_wp2_with fail
    go_region
    go_wp2_with fail
    refine bodyPost_ret (v := .tuple #[.slice none 0 0, .agg #[.int .i64 F.1, .int .i64 F.2]]) (by simp [results, Try.results8, go_sem, c0, c1, l1]) rfl (RetSig.bad E.out Hne.out (by go_grown))
end Go.Proofs.Ytldepnabkdpokaa
