/- Contracts: a string that starts with another one; a list of roles in memory. -/
import Derived.Test.YtplcbhcbahiheaaProg
import Derived.Test.YtplcbhcbahiheaaWi
import Derived.Test.YtplcbhcbahiheaaPg
import Derived.Test.YtplcbhcbahiheaaKh
import Derived.Test.YtplcbhcbahiheaaKi
namespace Go.Proofs.Ytplcbhcbahiheaa
open Go.RowKit

theorem Starts_any (s p : ByteArray) (w : World) (_ : s.size ≤ 9223372036854775807) (_ : p.size ≤ 9223372036854775807) :
    Calls Try.prog 41 #[.string s, .string p] w fun e w' => e = .returned (.bool (Pl.startsB s p)) ∧ w = w' := by
  by_cases h : p.size ≤ s.size
  · have e : Pl.startsB s p = ((s.extract 0 p.size).toList == p.toList) := by unfold Pl.startsB; simp [h]
    rw [e]
    have h2 : decide ((p.size : Int) ≤ (s.size : Int)) = true := by simp; omega
    go_enter Try.func41, Try.ntmps41
    go_wp2
    go_ret
    exact ⟨rfl, rfl⟩
  · have e : Pl.startsB s p = false := by unfold Pl.startsB; simp [h]
    rw [e]
    have h2 : decide ((p.size : Int) ≤ (s.size : Int)) = false := by simp; omega
    go_enter Try.func41, Try.ntmps41
    go_wp2
    go_ret
    exact ⟨rfl, rfl⟩
theorem liteHasPrefix_any (s p : ByteArray) (w : World) (_ : s.size ≤ 9223372036854775807) (_ : p.size ≤ 9223372036854775807) :
    Calls Try.prog 78 #[.string s, .string p] w fun e w' => e = .returned (.bool (Pl.startsB s p)) ∧ w = w' := by
  by_cases h : p.size ≤ s.size
  · have e : Pl.startsB s p = ((s.extract 0 p.size).toList == p.toList) := by unfold Pl.startsB; simp [h]
    rw [e]
    have h2 : decide ((p.size : Int) ≤ (s.size : Int)) = true := by simp; omega
    go_enter Try.func78, Try.ntmps78
    go_wp2
    go_ret
    exact ⟨rfl, rfl⟩
  · have e : Pl.startsB s p = false := by unfold Pl.startsB; simp [h]
    rw [e]
    have h2 : decide ((p.size : Int) ≤ (s.size : Int)) = false := by simp; omega
    go_enter Try.func78, Try.ntmps78
    go_wp2
    go_ret
    exact ⟨rfl, rfl⟩
theorem HasPrefix_any (s p : ByteArray) (w : World) (hs : s.size ≤ 9223372036854775807) (hp : p.size ≤ 9223372036854775807) :
    Calls Try.prog 63 #[.string s, .string p] w fun e w' => e = .returned (.bool (Pl.startsB s p)) ∧ w = w' := by
  go_enter Try.func63, Try.ntmps63
  go_wp2_with (go_at_call 78; refine (liteHasPrefix_any _ _ _ hs hp).mono ?_; rintro e w' ⟨rfl, rfl⟩)
  go_ret
  exact ⟨rfl, rfl⟩

/-- The cells of one role. -/
def roleCells (r : Pl.Role) (ka : Option Addr) (kc : Nat) : List Value := [.int .i64 r.parent, .string r.pre, .slice ka r.keys.length kc, .int .i64 r.need]
/-- A role's cells, its keys in memory. -/
def RoleIs (w : World) (r : Pl.Role) (cs : List Value) : Prop := ∃ ka kc, cs = roleCells r ka kc ∧ Sl w ka r.keys.length kc 1 (intVals r.keys) ∧ r.keys.length ≤ 9223372036854775807 ∧ r.pre.size ≤ 9223372036854775807
/-- A list of roles that lies in memory. -/
structure RolesIn (w : World) (oa : Option Addr) (cap : Nat) (rs : List Pl.Role) : Prop where
  hcap : rs.length ≤ cap
  hmax : cap ≤ maxLen
  mem : rs = [] ∨ ∃ b off, oa = some ⟨b, off, none⟩ ∧ b < w.heap.size ∧ ∀ i (h : i < rs.length), ∃ cs, RoleIs w rs[i] cs ∧ ∀ j u, cs[j]? = some u → w.cell? ⟨b, off + i * 4 + j, none⟩ = some u
theorem RoleIs.below {w w' : World} {r : Pl.Role} {cs : List Value} (h : RoleIs w r cs) {B : Nat} (hb : Below B w w') (hB : w.heap.size ≤ B) : RoleIs w' r cs := by
  obtain ⟨ka, kc, h1, h2, h3, h4⟩ := h
  exact ⟨ka, kc, h1, h2.below hb hB, h3, h4⟩
theorem RolesIn.below {w w' : World} {oa : Option Addr} {cap : Nat} {rs : List Pl.Role} (h : RolesIn w oa cap rs) {B : Nat} (hb : Below B w w') (hB : w.heap.size ≤ B) : RolesIn w' oa cap rs := by
  refine ⟨h.hcap, h.hmax, ?_⟩
  rcases h.mem with h0 | ⟨b, off, rfl, hlt, hc⟩
  · exact .inl h0
  · refine .inr ⟨b, off, rfl, Nat.lt_of_lt_of_le hlt hb.size, fun i hi => ?_⟩
    obtain ⟨cs, h1, h2⟩ := hc i hi
    exact ⟨cs, h1.below hb hB, fun j u hu => (hb.cell (p := ⟨b, off + i * 4 + j, none⟩) (Nat.lt_of_lt_of_le hlt hB)).trans (h2 j u hu)⟩
theorem RolesIn.nil (w : World) : RolesIn w none 0 [] := ⟨Nat.le_refl _, Nat.zero_le _, .inl rfl⟩
theorem RolesIn.len {w : World} {oa : Option Addr} {cap : Nat} {rs : List Pl.Role} (h : RolesIn w oa cap rs) : rs.length ≤ 9223372036854775807 := by
  have h1 := h.hcap
  have h2 := h.hmax
  simp only [maxLen] at h2
  omega

/-- One role out of a list: its cells and its keys. -/
structure RoleAt (w : World) (b o : Nat) (r : Pl.Role) (ka : Option Addr) (kc : Nat) : Prop where
  c0 : w.cell? ⟨b, o, none⟩ = some (.int .i64 r.parent)
  c1 : w.cell? ⟨b, o + 1, none⟩ = some (.string r.pre)
  c2 : w.cell? ⟨b, o + 2, none⟩ = some (.slice ka r.keys.length kc)
  c3 : w.cell? ⟨b, o + 3, none⟩ = some (.int .i64 r.need)
  ks : Sl w ka r.keys.length kc 1 (intVals r.keys)
  kl : r.keys.length ≤ 9223372036854775807
  pl : r.pre.size ≤ 9223372036854775807
theorem RolesIn.at {w : World} {oa : Option Addr} {cap : Nat} {rs : List Pl.Role} (h : RolesIn w oa cap rs) (hne : 0 < rs.length) : ∃ b off, oa = some ⟨b, off, none⟩ ∧ b < w.heap.size ∧ ∀ i, i < rs.length → ∃ ka kc, RoleAt w b (off + i * 4) (rs.getD i Pl.Role.zero) ka kc := by
  rcases h.mem with rfl | ⟨b, off, rfl, hlt, hc⟩
  · simp at hne
  · refine ⟨b, off, rfl, hlt, fun i hi => ?_⟩
    obtain ⟨cs, ⟨ka, kc, rfl, h2, h3, h4⟩, hcs⟩ := hc i hi
    have e : rs.getD i Pl.Role.zero = rs[i] := by rw [List.getD_eq_getElem?_getD, List.getElem?_eq_getElem hi]; rfl
    rw [e]
    exact ⟨ka, kc, hcs 0 _ rfl, hcs 1 _ rfl, hcs 2 _ rfl, hcs 3 _ rfl, h2, h3, h4⟩
theorem RoleAt.below {w w' : World} {b o : Nat} {r : Pl.Role} {ka : Option Addr} {kc : Nat} (h : RoleAt w b o r ka kc) {B : Nat} (hb : Below B w w') (hB : w.heap.size ≤ B) : RoleAt w' b o r ka kc := by
  have hlt : b < w.heap.size := World.block_lt_of_cell? w _ h.c0
  exact ⟨(hb.cell (p := ⟨b, o, none⟩) (by show b < B; omega)).trans h.c0, (hb.cell (p := ⟨b, o + 1, none⟩) (by show b < B; omega)).trans h.c1, (hb.cell (p := ⟨b, o + 2, none⟩) (by show b < B; omega)).trans h.c2, (hb.cell (p := ⟨b, o + 3, none⟩) (by show b < B; omega)).trans h.c3, h.ks.below hb hB, h.kl, h.pl⟩

namespace Sh
abbrev role : Sh := .cons .int (.cons .str (.cons (.sl .int) (.cons .int .nil)))
def toRole (x : role.T) : Pl.Role := ⟨x.1, ⟨(show List UInt8 from x.2.1).toArray⟩, x.2.2.1, x.2.2.2.1⟩
theorem role_is {w : World} {cs : List Value} {x : role.T} (h : Holds w role cs x) (hw : role.Wf x) : RoleIs w (toRole x) cs := by
  obtain ⟨n, s, l, m, u⟩ := x
  obtain ⟨c1, c2, rfl, _, h1, c3, c4, rfl, _, h2, c5, c6, rfl, _, h3, c7, c8, rfl, _, h4, h5⟩ := h
  obtain ⟨_, w2, w3, _⟩ := hw
  have h1 : c1 = [.int .i64 n] := h1
  have h2 : c3 = [.string ⟨(show List UInt8 from s).toArray⟩] := h2
  have h4 : c7 = [.int .i64 m] := h4
  have h5 : c8 = [] := h5
  have k5 : ∃ v, c5 = [v] := by obtain ⟨oa, cap, h, _⟩ := h3; exact ⟨_, h⟩
  obtain ⟨v, rfl⟩ := k5
  obtain ⟨oa, cap, rfl, hs⟩ := Holds.ints h3
  subst h1 h2 h4 h5
  exact ⟨oa, cap, rfl, hs, w3.1, w2⟩
theorem Holds.roles {w : World} {v : Value} {l : List role.T} (h : Holds w (.sl role) [v] l) (hw : (Sh.sl role).Wf l) : ∃ (rs : List Pl.Role) (oa : Option Addr) (cap : Nat), rs.length = l.length ∧ v = .slice oa rs.length cap ∧ RolesIn w oa cap rs := by
  obtain ⟨oa, cap, h1, h2, h3, h4⟩ := h
  refine ⟨l.map toRole, oa, cap, by simp, by rw [List.length_map]; simpa using h1, by rw [List.length_map]; exact h2, h3, ?_⟩
  rcases h4 with h4 | ⟨b, off, g1, g2, g3⟩
  · left
    rw [show l = [] from h4]
    rfl
  · right
    refine ⟨b, off, g1, g2, fun i hi => ?_⟩
    have hi' : i < l.length := by simpa using hi
    obtain ⟨es, k1, k2, k3⟩ := g3 i hi'
    refine ⟨es, ?_, k2⟩
    rw [List.getElem_map]
    exact role_is k3 (hw.2 _ (List.getElem_mem hi'))
end Sh
end Go.Proofs.Ytplcbhcbahiheaa
