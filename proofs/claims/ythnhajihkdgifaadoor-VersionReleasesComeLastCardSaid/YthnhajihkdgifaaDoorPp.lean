/- Versions, their faults and their order in plain words: no program in sight. -/
import Derived.Test.YthnhajihkdgifaaDoorPo
namespace Go.Proofs.YthnhajihkdgifaaDoor
namespace Pl

structure Ver where
  maj : Int
  min : Int
  pat : Int
  pre : List ByteArray

def Ver.zero : Ver := ⟨0, 0, 0, []⟩
def bsl (s : ByteArray) : List UInt8 := s.data.toList
theorem bsl_inj {a b : ByteArray} (h : bsl a = bsl b) : a = b := by
  cases a; cases b; simpa [bsl] using h

/-- The fault of identifiers from place k on. -/
def preAt : List ByteArray → Nat → Int × Int
  | [], _ => (0, 0)
  | s :: r, k => if identB (bsl s) = true then preAt r (k + 1) else (5, (k : Int))
def vrF (v : Ver) : Int × Int :=
  if inB v.maj 0 1000000000 = false then (3, 0)
  else if inB v.min 0 1000000000 = false then (3, 1)
  else if inB v.pat 0 1000000000 = false then (3, 2)
  else if 4 < v.pre.length then (2, -1)
  else preAt v.pre 0
theorem preAt_cases : ∀ (l : List ByteArray) (k : Nat), preAt l k = (0, 0) ∧ (∀ s ∈ l, identB (bsl s) = true) ∨ (preAt l k).1 ≠ 0
  | [], _ => .inl ⟨rfl, fun s h => by cases h⟩
  | s :: r, k => by
    rw [preAt]
    by_cases h : identB (bsl s) = true
    · rw [if_pos h]
      rcases preAt_cases r (k + 1) with ⟨e, g⟩ | g
      · exact .inl ⟨e, fun x hx => (List.mem_cons.1 hx).elim (fun e => e ▸ h) (g x)⟩
      · exact .inr g
    · rw [if_neg h]; exact .inr (by simp)
theorem preAt_ok : ∀ {l : List ByteArray} {k : Nat}, (∀ s ∈ l, identB (bsl s) = true) → preAt l k = (0, 0)
  | [], _, _ => rfl
  | s :: r, k, h => by rw [preAt, if_pos (h s (by simp))]; exact preAt_ok fun x hx => h x (by simp [hx])

structure Ver.Ok (v : Ver) : Prop where
  m1 : inB v.maj 0 1000000000 = true
  m2 : inB v.min 0 1000000000 = true
  m3 : inB v.pat 0 1000000000 = true
  n : v.pre.length ≤ 4
  i : ∀ s ∈ v.pre, identB (bsl s) = true
theorem vrF_ok {v : Ver} (h : v.Ok) : vrF v = (0, 0) := by
  unfold vrF
  rw [h.m1, h.m2, h.m3, if_neg (by decide), if_neg (by decide), if_neg (by decide), if_neg (by have := h.n; omega), preAt_ok h.i]
theorem vrF_cases (v : Ver) : vrF v = (0, 0) ∧ v.Ok ∨ (vrF v).1 ≠ 0 := by
  unfold vrF
  cases h1 : inB v.maj 0 1000000000
  · exact .inr (by rw [if_pos rfl]; decide)
  cases h2 : inB v.min 0 1000000000
  · exact .inr (by rw [if_neg (by decide), if_pos rfl]; decide)
  cases h3 : inB v.pat 0 1000000000
  · exact .inr (by rw [if_neg (by decide), if_neg (by decide), if_pos rfl]; decide)
  rw [if_neg (by decide), if_neg (by decide), if_neg (by decide)]
  by_cases h4 : 4 < v.pre.length
  · rw [if_pos h4]; exact .inr (by decide)
  · rw [if_neg h4]
    rcases preAt_cases v.pre 0 with ⟨e, g⟩ | g
    · exact .inl ⟨e, h1, h2, h3, by omega, g⟩
    · exact .inr g

def idc (a b : ByteArray) : Int := idCmp (bsl a) (bsl b)
theorem idc_TO : TO idc (fun _ => True) := idCmp_TO.pull bsl _ (fun _ h => h) (fun _ _ _ _ h => bsl_inj h)
def verKey (v : Ver) : Int × Int × Int × Int × List ByteArray := (v.maj, v.min, v.pat, if v.pre.length = 0 then 1 else 0, v.pre)
def verCmp (a b : Ver) : Int := lexP sgn (lexP sgn (lexP sgn (lexP sgn (lexL idc)))) (verKey a) (verKey b)
theorem verCmp_TO : TO verCmp (fun _ => True) := by
  refine (lexP_TO sgn_TO (lexP_TO sgn_TO (lexP_TO sgn_TO (lexP_TO sgn_TO (lexL_TO idc_TO))))).pull verKey _ (fun _ _ => ⟨trivial, trivial, trivial, trivial, fun _ _ => trivial⟩) (fun a b _ _ h => ?_)
  cases a; cases b
  simp only [verKey, Prod.mk.injEq] at h
  obtain ⟨h1, h2, h3, -, h4⟩ := h
  rw [h1, h2, h3, h4]

/-- The next version. -/
def zeroId : ByteArray := ⟨#[48]⟩
def verNext (v : Ver) : Ver := ⟨v.maj, v.min, if v.pre.length = 0 then v.pat + 1 else v.pat, v.pre ++ [zeroId]⟩
theorem zero_least {s : ByteArray} (h : identB (bsl s) = true) : idc zeroId s ≤ 0 := by
  obtain ⟨h1, -, -, -⟩ := identB_iff.1 h
  unfold idc
  generalize bsl s = l at *
  have e : idKey (bsl zeroId) = (0, 1, [48]) := rfl
  unfold idCmp lexP
  rw [e]
  unfold idKey
  cases hd : digsB l
  · simp [sgn]
  · rw [if_pos (by simp [sgn])]
    rcases l with _ | ⟨c, l⟩
    · simp at h1
    · simp only [digsB, List.all_cons, Bool.and_eq_true] at hd
      have hc := digB_iff.1 hd.1
      simp only [if_true, List.length_cons]
      unfold sgn
      repeat' split
      all_goals first | omega | skip
      rw [Lib.compareBytes]
      simp only [UInt8.lt_iff_toNat_lt]
      have e8 : (48 : UInt8).toNat = 48 := rfl
      rw [e8]
      repeat' split
      all_goals first | omega | skip
      cases l <;> simp [Lib.compareBytes]
theorem lexL_succ {α : Type} {c : α → α → Int} {z : α} : ∀ (p q : List α), (∀ y ∈ q, c z y ≤ 0) → (lexL c p q < 0 ↔ lexL c (p ++ [z]) q ≤ 0)
  | [], [], _ => by simp [lexL]
  | [], y :: q, h => by
    have hy := h y (by simp)
    rw [List.nil_append, lexL, lexL]
    refine ⟨fun _ => ?_, fun _ => by omega⟩
    split
    · cases q <;> simp [lexL]
    · exact hy
  | x :: p, [], _ => by simp [lexL]
  | x :: p, y :: q, h => by
    rw [List.cons_append, lexL, lexL]
    split
    · exact lexL_succ p q fun z hz => h z (by simp [hz])
    · omega
theorem Ver.ext' {a b : Ver} (h1 : a.maj = b.maj) (h2 : a.min = b.min) (h3 : a.pat = b.pat) (h4 : a.pre = b.pre) : a = b := by
  cases a; cases b; cases h1; cases h2; cases h3; cases h4; rfl
theorem sgn_lt {x y : Int} (h : x < y) : sgn x y = -1 := by unfold sgn; rw [if_pos h]
theorem sgn_self (x : Int) : sgn x x = 0 := by unfold sgn; rw [if_neg (by omega), if_neg (by omega)]
theorem sgn_gt {x y : Int} (h : y < x) : sgn x y = 1 := by unfold sgn; rw [if_neg (by omega), if_pos h]
/-- The order, unfolded. -/
theorem verCmp_eq (a b : Ver) : verCmp a b =
    if sgn a.maj b.maj = 0 then if sgn a.min b.min = 0 then if sgn a.pat b.pat = 0 then
      if sgn (if a.pre.length = 0 then 1 else 0) (if b.pre.length = 0 then 1 else 0) = 0 then lexL idc a.pre b.pre else sgn (if a.pre.length = 0 then 1 else 0) (if b.pre.length = 0 then 1 else 0)
      else sgn a.pat b.pat else sgn a.min b.min else sgn a.maj b.maj := rfl
theorem sgn_zero {x y : Int} : sgn x y = 0 ↔ x = y := by unfold sgn; repeat' split <;> omega
/-- No version lies between a version and the next one. -/
theorem next_succ (a b : Ver) (hb : ∀ s ∈ b.pre, identB (bsl s) = true) : verCmp a b < 0 ↔ verCmp (verNext a) b ≤ 0 := by
  have hL := lexL_succ (c := idc) (z := zeroId) a.pre b.pre fun y hy => zero_least (hb y hy)
  rw [verCmp_eq, verCmp_eq]
  have e0 : (verNext a).pre.length ≠ 0 := by simp [verNext]
  rw [show (verNext a).maj = a.maj from rfl, show (verNext a).min = a.min from rfl, if_neg e0]
  by_cases h1 : sgn a.maj b.maj = 0
  · rw [if_pos h1, if_pos h1]
    by_cases h2 : sgn a.min b.min = 0
    · rw [if_pos h2, if_pos h2]
      by_cases hp : a.pre.length = 0
      · have hp' : a.pre = [] := List.length_eq_zero_iff.1 hp
        have e1 : (verNext a).pat = a.pat + 1 := by simp [verNext, hp]
        rw [e1, if_pos hp]
        rw [show (verNext a).pre = [zeroId] by simp [verNext, hp']]
        have g1 := sgn_self 0
        have g2 := sgn_self 1
        have g3 := sgn_lt (show (0 : Int) < 1 by omega)
        have g4 := sgn_gt (show (0 : Int) < 1 by omega)
        have hL2 : b.pre.length ≠ 0 → lexL idc [zeroId] b.pre ≤ 0 := fun hq => by
          rw [hp'] at hL
          refine hL.1 ?_
          cases h : b.pre with
          | nil => rw [h] at hq; exact absurd rfl hq
          | cons x l => rw [lexL]; omega
        have hL3 : b.pre.length = 0 → lexL idc a.pre b.pre = 0 := fun hq => by rw [hp', List.length_eq_zero_iff.1 hq]; rfl
        generalize lexL idc a.pre b.pre = X at *
        generalize lexL idc [zeroId] b.pre = Y at *
        rcases Int.lt_trichotomy a.pat b.pat with h | h | h
        · have f1 := sgn_lt h
          by_cases h4 : a.pat + 1 = b.pat
          · have f2 := sgn_self b.pat
            rw [h4]
            by_cases hq : b.pre.length = 0
            · simp [f1, f2, hq, g3]
            · simp [f1, f2, hq, g1, hL2 hq]
          · have f2 := sgn_lt (show a.pat + 1 < b.pat by omega)
            simp [f1, f2]
        · have f1 := sgn_self b.pat
          have f2 := sgn_gt (show b.pat < b.pat + 1 by omega)
          rw [h]
          by_cases hq : b.pre.length = 0
          · simp [f1, f2, hq, g2, hL3 hq]
          · simp [f1, f2, hq, g4]
        · have f1 := sgn_gt h
          have f2 := sgn_gt (show b.pat < a.pat + 1 by omega)
          simp [f1, f2]
      · have e1 : (verNext a).pat = a.pat := by simp [verNext, hp]
        rw [e1, if_neg hp]
        by_cases h3 : sgn a.pat b.pat = 0
        · rw [if_pos h3, if_pos h3]
          by_cases hq : b.pre.length = 0
          · rw [if_pos hq, sgn_lt (show (0 : Int) < 1 by omega), if_neg (by omega)]
            omega
          · rw [if_neg hq, if_pos (sgn_self 0), if_pos (sgn_self 0)]
            exact hL
        · rw [if_neg h3, if_neg h3]
          omega
    · rw [if_neg h2, if_neg h2]
      omega
  · rw [if_neg h1, if_neg h1]
    omega
end Pl
end Go.Proofs.YthnhajihkdgifaaDoor
