/- The laws of package signing on keys and messages: walked. -/
import Derived.Test.YtbbjniahaogdnaaLa
namespace Go.Proofs.Ytbbjniahaogdnaa
open Go.RowKit

theorem Sign_any (k : Int) (l : List UInt8) (oa : Option Addr) (cap : Nat) (w : World) (hs : Sl w oa l.length cap 1 (byteVals l)) (hm : l.length ≤ 9223372036854775807) :
    Calls Try.prog 17 #[.int .i64 k, .slice oa l.length cap] w fun e w' => e = .returned (.tuple #[.int .i64 (Pl.signV k l), .agg #[.int .i64 (Pl.signF k l.length).1, .int .i64 (Pl.signF k l.length).2]]) ∧ Below w.heap.size w w' := by
  by_cases hk : Pl.isKeyB k = true
  · by_cases hn : l.length ≤ 4096
    · refine (Sign_ok k l oa cap w hs hk hn).mono ?_
      rintro e w' ⟨rfl, hb⟩
      exact ⟨by simp [Pl.signV, Pl.signF, hk, hn], hb⟩
    · refine (Sign_long k l oa cap w hk hn hm).mono ?_
      rintro e w' ⟨rfl, hb⟩
      exact ⟨by simp [Pl.signV, Pl.signF, hk, hn], hb⟩
  · have hk : Pl.isKeyB k = false := by simpa using hk
    refine (Sign_key k l oa cap w hk).mono ?_
    rintro e w' ⟨rfl, hb⟩
    exact ⟨by simp [Pl.signV, Pl.signF, hk], hb⟩

theorem Pl.signF_ok {k : Int} {n : Nat} (h : (Pl.signF k n).1 = 0) : Pl.isKeyB k = true ∧ n ≤ 4096 := by
  unfold Pl.signF at h
  split at h
  · split at h
    · exact ⟨‹_›, ‹_›⟩
    · cases h
  · cases h
namespace Pl
theorem inj1 (d q m : Int) (hm : m = 2305843009213693951) (h1 : -1000003000000000 ≤ d) (h2 : d ≤ 1000003000000000) (h : d = m * q) : d = 0 := by
  subst hm
  by_cases h3 : q ≤ -1
  · omega
  · by_cases h4 : 1 ≤ q
    · omega
    · have : q = 0 := by omega
      subst this
      omega
theorem inj0 (a b c m : Int) (hm : m = 2305843009213693951) (ha : 1 ≤ a) (ha' : a ≤ 1000000000) (hb : 1 ≤ b) (hb' : b ≤ 1000000000) (h : (a * 1000003 + c) % m = (b * 1000003 + c) % m) : a = b := by
  have h2 := Int.emod_eq_emod_iff_emod_sub_eq_zero.1 h
  have h3 : a * 1000003 + c - (b * 1000003 + c) = (a - b) * 1000003 := by omega
  rw [h3] at h2
  obtain ⟨q, hq⟩ := Int.dvd_of_emod_eq_zero h2
  have := inj1 ((a - b) * 1000003) q m hm (by omega) (by omega) hq
  omega
theorem signS_inj {a b : Int} {l : List UInt8} (ha : isKeyB a = true) (hb : isKeyB b = true) (h : signS a l = signS b l) : a = b := by
  have ra := isKeyB_true.1 ha
  have rb := isKeyB_true.1 hb
  refine inj0 a b (ofS l * 31 + 7) M rfl (by omega) (by omega) (by omega) (by omega) ?_
  rw [← Int.add_assoc, ← Int.add_assoc]
  exact h
end Pl
/-- The first field of a fault that lies in no variable. -/
@[go_sem] theorem Try.fld0 (x y : Int) (w : World) : (Instr.field 26 (.agg #[.int .i64 x, .int .i64 y]) 0).run Try.prog w = .ok (.int .i64 x) w := by kernel_rfl

theorem SigningKeysAreDistinguished_main (a b : Int) (l : List UInt8) (oa : Option Addr) (cap : Nat) (w : World) (hs : Sl w oa l.length cap 1 (byteVals l)) (hm : l.length ≤ 9223372036854775807) :
    Calls Try.prog 7 #[.int .i64 a, .int .i64 b, .slice oa l.length cap] w fun e w' => e = .returned (.bool true) ∧ Below w.heap.size w w' := by
  have inj : (Pl.signF a l.length).1 = 0 → (Pl.signF b l.length).1 = 0 → ((Pl.signV a l == Pl.signV b l) == (a == b)) = true := by
    intro h1 h2
    obtain ⟨ka, hn⟩ := Pl.signF_ok h1
    obtain ⟨kb, _⟩ := Pl.signF_ok h2
    have e1 : Pl.signV a l = Pl.signS a l := by simp [Pl.signV, ka, hn]
    have e2 : Pl.signV b l = Pl.signS b l := by simp [Pl.signV, kb, hn]
    rw [e1, e2]
    by_cases h : a = b
    · subst h; simp
    · have : Pl.signS a l ≠ Pl.signS b l := fun e => h (Pl.signS_inj ka kb e)
      rw [beq_eq_false_iff_ne.2 this, beq_eq_false_iff_ne.2 h]
      rfl
  have HI := Lib.hid inj
  clear inj
  go_enter Try.func7, Try.ntmps7
  go_wp2_with fail
  refine (signs_any w).mono ?_
  rintro e w1 ⟨rfl, B1⟩
  have s1 := B1.size
  go_wp2_with fail
  refine (Sign_any a l oa cap _ (hs.below B1 (Nat.le_refl _)) hm).mono ?_
  rintro e w2 ⟨rfl, hb2⟩
  have B2 := bcall B1 hb2 s1
  have s2 := B2.size
  generalize hFa : Pl.signF a l.length = FA at *
  have HFa := Lib.hid hFa
  clear hFa
  have X1 := Box2.new w2 (.int .i64 FA.1) (.int .i64 FA.2) 26
  go_wp2_with fail
  refine (Sign_any b l oa cap _ (hs.below (B2.alloc s2 _) (Nat.le_refl _)) hm).mono ?_
  rintro e w3 ⟨rfl, hb3⟩
  have B3 := bcall (B2.alloc s2 _) hb3 (by go_size)
  have s3 := B3.size
  generalize hFb : Pl.signF b l.length = FB at *
  have HFb := Lib.hid hFb
  clear hFb
  obtain ⟨a0, _, _, _, la⟩ := (X1.below hb3 X1.lt).alloc (.cells #[.int .i64 FB.1, .int .i64 FB.2] 26)
  by_cases hA : FA.1 = 0
  · have t1 : (FA.1 != 0) = false := by simp [hA]
    by_cases hB : FB.1 = 0
    · have t2 : (FB.1 != 0) = false := by simp [hB]
      have HH := Lib.hid (HI.out hA hB)
      clear hA hB
      go_wp2_with fail
      go_ret
      exact ⟨ret_bool HH.out, B3.alloc s3 _⟩
    · have t2 : (FB.1 != 0) = true := by simp [hB]
      clear hA hB
      go_wp2_with fail
      refine (SignFault_any a oa l.length cap _ hm).mono ?_
      rw [HFa.out]
      rintro e w4 ⟨rfl, hb4⟩
      have B4 := bcall (B3.alloc s3 _) hb4 (by go_size)
      have s4 := B4.size
      go_wp2_with fail
      refine (SignFault_any b oa l.length cap _ hm).mono ?_
      rw [HFb.out]
      rintro e w5 ⟨rfl, hb5⟩
      have B5 := bcall B4 hb5 s4
      go_wp2_with fail
      go_ret
      exact ⟨rfl, B5⟩
  · have t1 : (FA.1 != 0) = true := by simp [hA]
    clear hA
    go_wp2_with fail
    refine (SignFault_any a oa l.length cap _ hm).mono ?_
    rw [HFa.out]
    rintro e w4 ⟨rfl, hb4⟩
    have B4 := bcall (B3.alloc s3 _) hb4 (by go_size)
    go_wp2_with fail
    go_ret
    exact ⟨rfl, B4⟩
end Go.Proofs.Ytbbjniahaogdnaa
