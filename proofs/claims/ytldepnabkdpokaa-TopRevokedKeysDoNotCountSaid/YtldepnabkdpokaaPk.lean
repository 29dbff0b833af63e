/- Plain words of package keyring: no program in sight. -/
import Derived.Test.YtldepnabkdpokaaPh
namespace Go.Proofs.Ytldepnabkdpokaa
open Go.RowKit
namespace Pl

structure Ev where
  kind : Int
  key : Int
  user : Int
  time : Int
def Ev.zero : Ev := ⟨0, 0, 0, 0⟩
structure Life where
  user : Int
  start : Int
  stop : Int
  gone : Bool
def Life.zero : Life := ⟨0, 0, 0, false⟩
def isUserB (n : Int) : Bool := inB n 0 7
theorem isUserB_true {n : Int} : isUserB n = true ↔ 0 ≤ n ∧ n ≤ 7 := inB_true
/-- The event of a kind for a key. -/
def isEv (k kd : Int) (e : Ev) : Bool := e.kind == kd && e.key == k
def keyTime (l : List Ev) (k kd : Int) : Int := match l.find? (isEv k kd) with
  | some e => e.time
  | none => -1
def keyOwner (l : List Ev) (k : Int) : Int := match l.find? (isEv k 1) with
  | some e => e.user
  | none => -1
/-- The error of an event behind others. -/
def evC (l : List Ev) (last : Int) (e : Ev) : Int :=
  if e.kind ≠ 1 ∧ e.kind ≠ 2 then 4
  else if (isKeyB e.key && isUserB e.user && isTimeB e.time) = false then 3
  else if (e.kind = 2 ∧ e.user ≠ 0) ∨ e.time < last then 5
  else if e.kind = 1 ∧ 0 ≤ keyTime l e.key 1 then 7
  else if e.kind = 2 ∧ keyTime l e.key 1 < 0 then 6
  else if e.kind = 2 ∧ 0 ≤ keyTime l e.key 2 then 11
  else 0
def lastT (l : List Ev) : Int := match l.getLast? with
  | some e => e.time
  | none => 0
theorem lastT_snoc (l : List Ev) (e : Ev) : lastT (l ++ [e]) = e.time := by simp [lastT]
def evAt (l : List Ev) (k : Nat) : Int := evC (l.take k) (lastT (l.take k)) (l.getD k Ev.zero)
/-- The fault of a keyring from place k on; f: how many events are left. -/
def krAt (l : List Ev) : Nat → Nat → Int × Int
  | 0, _ => (0, 0)
  | f + 1, k => if evAt l k = 0 then krAt l f (k + 1) else (evAt l k, k)
def krF (l : List Ev) : Int × Int := if l.length ≤ 40 then krAt l l.length 0 else (2, -1)
theorem krAt_step (l : List Ev) (k : Nat) (hk : k < l.length) : krAt l (l.length - k) k = if evAt l k = 0 then krAt l (l.length - (k + 1)) (k + 1) else (evAt l k, (k : Int)) := by
  have e : l.length - k = (l.length - (k + 1)) + 1 := by omega
  rw [e, krAt]
theorem krAt_end (l : List Ev) : krAt l (l.length - l.length) l.length = (0, 0) := by rw [Nat.sub_self]; rfl
theorem krAt_cases (l : List Ev) : ∀ f k, krAt l f k = (0, 0) ∧ (∀ i, k ≤ i → i < k + f → evAt l i = 0) ∨ (krAt l f k).1 ≠ 0
  | 0, _ => .inl ⟨rfl, fun i h1 h2 => by omega⟩
  | f + 1, k => by
    rw [krAt]
    by_cases h : evAt l k = 0
    · rw [if_pos h]
      rcases krAt_cases l f (k + 1) with ⟨e, g⟩ | g
      · refine .inl ⟨e, fun i h1 h2 => ?_⟩
        by_cases hi : i = k
        · subst hi; exact h
        · exact g i (by omega) (by omega)
      · exact .inr g
    · rw [if_neg h]; exact .inr h
def Valid (l : List Ev) : Prop := ∀ i, i < l.length → evAt l i = 0
theorem krF_cases (l : List Ev) : krF l = (0, 0) ∧ l.length ≤ 40 ∧ Valid l ∨ (krF l).1 ≠ 0 := by
  unfold krF
  by_cases h : l.length ≤ 40
  · rw [if_pos h]
    rcases krAt_cases l l.length 0 with ⟨e, g⟩ | g
    · exact .inl ⟨e, h, fun i hi => g i (by omega) (by omega)⟩
    · exact .inr g
  · rw [if_neg h]; exact .inr (by decide)
theorem krAt_ok (l : List Ev) (h : Valid l) : ∀ f k, k + f = l.length → krAt l f k = (0, 0)
  | 0, _, _ => rfl
  | f + 1, k, e => by rw [krAt, if_pos (h k (by omega))]; exact krAt_ok l h f (k + 1) (by omega)
theorem krF_ok {l : List Ev} (h40 : l.length ≤ 40) (h : Valid l) : krF l = (0, 0) := by
  unfold krF
  rw [if_pos h40, krAt_ok l h _ 0 (by omega)]

/-- An event without error. -/
structure Good (l : List Ev) (last : Int) (e : Ev) : Prop where
  kind : e.kind = 1 ∨ e.kind = 2
  hkey : isKeyB e.key = true
  huser : isUserB e.user = true
  htime : isTimeB e.time = true
  user0 : e.kind = 2 → e.user = 0
  late : last ≤ e.time
  add : e.kind = 1 → keyTime l e.key 1 < 0
  known : e.kind = 2 → 0 ≤ keyTime l e.key 1
  fresh : e.kind = 2 → keyTime l e.key 2 < 0
theorem evC_good {l : List Ev} {last : Int} {e : Ev} : evC l last e = 0 ↔ Good l last e := by
  unfold evC
  constructor
  · intro h
    split at h
    · cases h
    · rename_i h1
      split at h
      · cases h
      · rename_i h2
        split at h
        · cases h
        · rename_i h3
          split at h
          · cases h
          · rename_i h4
            split at h
            · cases h
            · rename_i h5
              split at h
              · cases h
              · rename_i h6
                simp only [Bool.not_eq_false, Bool.and_eq_true] at h2
                exact ⟨by omega, h2.1.1, h2.1.2, h2.2, by omega, by omega, by omega, by omega, by omega⟩
  · rintro ⟨g1, g2, g3, g4, g5, g6, g7, g8, g9⟩
    rw [if_neg (by omega), if_neg (by rw [g2, g3, g4]; decide), if_neg (by omega), if_neg (by intro h; have := g7 h.1; omega), if_neg (by intro h; have := g8 h.1; omega), if_neg (by intro h; have := g9 h.1; omega)]
theorem Good.time {l : List Ev} {last : Int} {e : Ev} (h : Good l last e) : 0 ≤ e.time := (isTimeB_true.1 h.htime).1
theorem Valid.take {l : List Ev} (h : Valid l) (n : Nat) : Valid (l.take n) := by
  intro i hi
  rw [List.length_take] at hi
  have := h i (by omega)
  unfold evAt at this ⊢
  rw [List.take_take, Nat.min_eq_left (by omega), List.getD_eq_getElem?_getD, List.getElem?_take_of_lt (by omega), ← List.getD_eq_getElem?_getD]
  exact this
theorem Valid.snoc {l : List Ev} {e : Ev} : Valid (l ++ [e]) ↔ Valid l ∧ evC l (lastT l) e = 0 := by
  constructor
  · intro h
    refine ⟨?_, ?_⟩
    · have := h.take l.length
      rwa [List.take_left] at this
    · have := h l.length (by simp)
      unfold evAt at this
      rw [List.take_left, List.getD_eq_getElem?_getD, List.getElem?_append_right (Nat.le_refl _), Nat.sub_self] at this
      exact this
  · rintro ⟨h1, h2⟩ i hi
    rw [List.length_append, List.length_singleton] at hi
    unfold evAt
    by_cases hl : i < l.length
    · rw [List.take_append_of_le_length (by omega), List.getD_eq_getElem?_getD, List.getElem?_append_left hl, ← List.getD_eq_getElem?_getD]
      exact h1 i hl
    · obtain rfl : i = l.length := by omega
      rw [List.take_left, List.getD_eq_getElem?_getD, List.getElem?_append_right (Nat.le_refl _), Nat.sub_self]
      exact h2
/-- By building up: what holds of none, and keeps holding, holds of all. -/
theorem Valid.ind {P : List Ev → Prop} (h0 : P []) (hs : ∀ l e, Valid l → P l → Good l (lastT l) e → P (l ++ [e])) : ∀ n (l : List Ev), l.length = n → Valid l → P l
  | 0, l, hn, _ => by
    have := List.eq_nil_of_length_eq_zero hn
    subst this
    exact h0
  | n + 1, l, hn, hv => by
    have hne : l ≠ [] := by intro h; subst h; simp at hn
    have e : l.dropLast ++ [l.getLast hne] = l := List.dropLast_concat_getLast hne
    rw [← e] at hv ⊢
    have hv2 := Valid.snoc.1 hv
    exact hs _ _ hv2.1 (Valid.ind h0 hs n _ (by rw [List.length_dropLast]; omega) hv2.1) (evC_good.1 hv2.2)
theorem keyTime_snoc (l : List Ev) (e : Ev) (k kd : Int) : keyTime (l ++ [e]) k kd = if (l.find? (isEv k kd)).isSome = true then keyTime l k kd else if isEv k kd e = true then e.time else -1 := by
  unfold keyTime
  rw [List.find?_append]
  cases h : l.find? (isEv k kd) with
  | some x => simp
  | none =>
    simp only [Option.isSome_none, Bool.false_eq_true, if_false, Option.none_or]
    by_cases he : isEv k kd e = true
    · simp [he]
    · simp [he]
theorem keyTime_pos {l : List Ev} (h : ∀ e ∈ l, 0 ≤ e.time) (k kd : Int) : (l.find? (isEv k kd)).isSome = decide (0 ≤ keyTime l k kd) := by
  unfold keyTime
  cases hf : l.find? (isEv k kd) with
  | some x =>
    have := h x (List.mem_of_find?_eq_some hf)
    simp [this]
  | none => simp
theorem Valid.times {l : List Ev} (h : Valid l) : ∀ e ∈ l, 0 ≤ e.time := by
  refine Valid.ind (P := fun l => ∀ e ∈ l, 0 ≤ e.time) (fun e he => by cases he) (fun l e _ ih hg x hx => ?_) l.length l rfl h
  rcases List.mem_append.1 hx with hx | hx
  · exact ih x hx
  · rw [List.mem_singleton.1 hx]; exact hg.time
theorem Valid.keyTime {l : List Ev} {e : Ev} (h : Valid l) (k kd : Int) : Pl.keyTime (l ++ [e]) k kd = if 0 ≤ Pl.keyTime l k kd then Pl.keyTime l k kd else if e.kind = kd ∧ e.key = k then e.time else -1 := by
  rw [keyTime_snoc, keyTime_pos h.times]
  simp only [decide_eq_true_eq, isEv, Bool.and_eq_true, beq_iff_eq]
/-- What is known of a key. -/
def lifeOf (l : List Ev) (k : Int) : Option Life := if 0 ≤ keyTime l k 1 then some ⟨keyOwner l k, keyTime l k 1, if 0 ≤ keyTime l k 2 then keyTime l k 2 else 0, decide (0 ≤ keyTime l k 2)⟩ else none
def lifeD (l : List Ev) (k : Int) : Life := (lifeOf l k).getD Life.zero
def next (old : Life) (e : Ev) : Life := if e.kind = 1 then ⟨e.user, e.time, 0, false⟩ else ⟨old.user, old.start, e.time, true⟩
theorem Valid.revoked {l : List Ev} (h : Valid l) : ∀ k, 0 ≤ Pl.keyTime l k 2 → 0 ≤ Pl.keyTime l k 1 := by
  refine Valid.ind (P := fun l => ∀ k, 0 ≤ Pl.keyTime l k 2 → 0 ≤ Pl.keyTime l k 1) (fun k hk => by simp [Pl.keyTime] at hk) (fun l e hv ih hg k hk => ?_) l.length l rfl h
  rw [hv.keyTime] at hk ⊢
  by_cases h1 : 0 ≤ Pl.keyTime l k 1
  · rw [if_pos h1]; exact h1
  · rw [if_neg h1]
    by_cases h2 : 0 ≤ Pl.keyTime l k 2
    · exact absurd (ih k h2) h1
    · rw [if_neg h2] at hk
      by_cases h3 : e.kind = 2 ∧ e.key = k
      · have := hg.known h3.1
        rw [h3.2] at this
        exact absurd this h1
      · rw [if_neg h3] at hk
        omega
theorem keyOwner_snoc (l : List Ev) (e : Ev) (k : Int) : keyOwner (l ++ [e]) k = if (l.find? (isEv k 1)).isSome = true then keyOwner l k else if isEv k 1 e = true then e.user else -1 := by
  unfold keyOwner
  rw [List.find?_append]
  cases h : l.find? (isEv k 1) with
  | some x => simp
  | none =>
    simp only [Option.isSome_none, Bool.false_eq_true, if_false, Option.none_or]
    by_cases he : isEv k 1 e = true
    · simp [he]
    · simp [he]
theorem Valid.keyOwner {l : List Ev} {e : Ev} (h : Valid l) (k : Int) : Pl.keyOwner (l ++ [e]) k = if 0 ≤ Pl.keyTime l k 1 then Pl.keyOwner l k else if e.kind = 1 ∧ e.key = k then e.user else -1 := by
  rw [keyOwner_snoc, keyTime_pos h.times]
  simp only [decide_eq_true_eq, isEv, Bool.and_eq_true, beq_iff_eq]
theorem lifeOf_nil (k : Int) : lifeOf [] k = none := by simp [lifeOf, keyTime]
theorem lifeOf_snoc {l : List Ev} {e : Ev} (h : Valid l) (hg : Good l (lastT l) e) (k : Int) : lifeOf (l ++ [e]) k = if k = e.key then some (next (lifeD l k) e) else lifeOf l k := by
  have hr := h.revoked k
  unfold lifeOf next
  rw [h.keyTime, h.keyTime, h.keyOwner]
  by_cases hk : k = e.key
  · subst hk
    rw [if_pos rfl]
    rcases hg.kind with h1 | h2
    · have a := hg.add h1
      have b : ¬ 0 ≤ Pl.keyTime l e.key 2 := fun h => by have := hr h; omega
      have c := hg.time
      have d : ¬ 0 ≤ Pl.keyTime l e.key 1 := by omega
      have e2 : ¬ (e.kind = 2 ∧ True) := by omega
      simp only [if_neg d, if_neg b, h1, true_and, if_true, if_pos c]
      simp
    · have a := hg.known h2
      have b : ¬ 0 ≤ Pl.keyTime l e.key 2 := by have := hg.fresh h2; omega
      have c := hg.time
      have d : ¬ e.kind = 1 := by omega
      simp only [if_pos a, if_neg b, h2, true_and, if_true, if_pos c]
      unfold lifeD lifeOf
      rw [if_pos a]
      simp [c]
  · rw [if_neg hk]
    have n1 : ∀ kd, ¬ (e.kind = kd ∧ e.key = k) := fun kd h => hk h.2.symm
    simp only [if_neg (n1 1), if_neg (n1 2)]
    by_cases h1 : 0 ≤ Pl.keyTime l k 1
    · simp only [if_pos h1]
      by_cases h2 : 0 ≤ Pl.keyTime l k 2
      · simp only [if_pos h2]
      · simp only [if_neg h2]
        simp
        omega
    · simp only [if_neg h1]
      simp

/-- A key is valid at a time. -/
def kvB (l : List Ev) (k t : Int) : Bool := decide (0 ≤ keyTime l k 1) && decide (keyTime l k 1 ≤ t) && (decide (keyTime l k 2 < 0) || decide (t < keyTime l k 2))
def lifeB (L : Life) (t : Int) : Bool := decide (L.start ≤ t) && (!L.gone || decide (t < L.stop))
theorem kvB_life (l : List Ev) (k t : Int) : kvB l k t = ((lifeOf l k).isSome && lifeB (lifeD l k) t) := by
  unfold kvB lifeD lifeOf lifeB
  by_cases h1 : 0 ≤ keyTime l k 1
  · simp only [h1, if_true, decide_true, Bool.true_and, Option.isSome_some, Option.getD_some]
    by_cases h2 : 0 ≤ keyTime l k 2
    · simp only [h2, if_true, decide_true, Bool.not_true, Bool.false_or]
      rw [decide_eq_false (by omega : ¬ keyTime l k 2 < 0), Bool.false_or]
    · simp only [h2, decide_false, Bool.not_false, Bool.true_or]
      rw [decide_eq_true (by omega : keyTime l k 2 < 0), Bool.true_or]
  · simp [h1]
/-- What the functions say. -/
def validF (l : List Ev) (k t : Int) : Int × Int := if (krF l).1 = 0 then (if (isKeyB k && isTimeB t) = true then (0, 0) else (3, -1)) else krF l
def validB (l : List Ev) (k t : Int) : Bool := (validF l k t).1 == 0 && kvB l k t
def ownerF (l : List Ev) (k : Int) : Int × Int := if (krF l).1 = 0 then (if isKeyB k = true then (if 0 ≤ keyTime l k 1 then (0, 0) else (6, 0)) else (3, -1)) else krF l
def ownerV (l : List Ev) (k : Int) : Int := if (ownerF l k).1 = 0 then keyOwner l k else 0
def ukF (l : List Ev) (u t : Int) : Int × Int := if (krF l).1 = 0 then (if (isUserB u && isTimeB t) = true then (0, 0) else (3, -1)) else krF l
def insN (x : Int) (acc : List Int) : List Int := if x ∈ acc then acc else insS acc x
def wantB (l : List Ev) (u t : Int) (e : Ev) : Bool := e.kind == 1 && e.user == u && kvB l e.key t
def ukS (l : List Ev) (u t : Int) : List Int := ((l.filter (wantB l u t)).map Ev.key).foldr insN []
def ukV (l : List Ev) (u t : Int) : List Int := if (ukF l u t).1 = 0 then ukS l u t else []
theorem ins_mem {xs : List Int} {n a : Int} : a ∈ insS xs n ↔ a = n ∨ a ∈ xs := by
  have e := List.takeWhile_append_dropWhile (p := fun x : Int => decide (x < n)) (l := xs)
  unfold insS
  constructor
  · intro h
    rcases List.mem_append.1 h with h | h
    · exact .inr (by rw [← e]; exact List.mem_append_left _ h)
    · rcases List.mem_cons.1 h with h | h
      · exact .inl h
      · exact .inr (by rw [← e]; exact List.mem_append_right _ h)
  · rintro (rfl | h)
    · simp
    · rw [← e] at h
      rcases List.mem_append.1 h with h | h
      · exact List.mem_append_left _ h
      · exact List.mem_append_right _ (List.mem_cons_of_mem _ h)
theorem ins_rising {n : Int} : ∀ {xs : List Int}, xs.Pairwise (· < ·) → n ∉ xs → (insS xs n).Pairwise (· < ·)
  | [], _, _ => by simp [insS]
  | x :: xs, h, hn => by
    have h2 := List.pairwise_cons.1 h
    have hn2 : n ∉ xs := fun h => hn (List.mem_cons_of_mem _ h)
    have hne : x ≠ n := fun h => hn (by rw [h]; exact List.mem_cons_self)
    by_cases hx : x < n
    · have e : insS (x :: xs) n = x :: insS xs n := by
        unfold insS
        rw [List.takeWhile_cons_of_pos (by simpa using hx), List.dropWhile_cons_of_pos (by simpa using hx), List.cons_append]
      rw [e]
      refine List.pairwise_cons.2 ⟨fun y hy => ?_, ins_rising h2.2 hn2⟩
      rcases ins_mem.1 hy with rfl | hy
      · exact hx
      · exact h2.1 y hy
    · have e : insS (x :: xs) n = n :: x :: xs := by
        unfold insS
        rw [List.takeWhile_cons_of_neg (by simpa using hx), List.dropWhile_cons_of_neg (by simpa using hx), List.nil_append]
      rw [e]
      refine List.pairwise_cons.2 ⟨fun y hy => ?_, h⟩
      rcases List.mem_cons.1 hy with rfl | hy
      · omega
      · have := h2.1 y hy
        omega
theorem insN_fold : ∀ (xs : List Int), (xs.foldr insN []).Pairwise (· < ·) ∧ ∀ a, a ∈ xs.foldr insN [] ↔ a ∈ xs
  | [] => ⟨List.Pairwise.nil, fun a => Iff.rfl⟩
  | x :: xs => by
    obtain ⟨h1, h2⟩ := insN_fold xs
    rw [List.foldr_cons]
    by_cases hx : x ∈ xs.foldr insN []
    · rw [show insN x (xs.foldr insN []) = xs.foldr insN [] from if_pos hx]
      refine ⟨h1, fun a => ?_⟩
      rw [h2, List.mem_cons]
      refine ⟨.inr, fun h => ?_⟩
      rcases h with rfl | h
      · exact (h2 _).1 hx
      · exact h
    · rw [show insN x (xs.foldr insN []) = insS (xs.foldr insN []) x from if_neg hx]
      refine ⟨ins_rising h1 hx, fun a => ?_⟩
      rw [ins_mem, h2, List.mem_cons]
theorem ukS_rising (l : List Ev) (u t : Int) : (ukS l u t).Pairwise (· < ·) := (insN_fold _).1
theorem mem_ukS {l : List Ev} {u t k : Int} : k ∈ ukS l u t ↔ ∃ e ∈ l, e.kind = 1 ∧ e.user = u ∧ e.key = k ∧ kvB l k t = true := by
  unfold ukS
  rw [(insN_fold _).2]
  simp only [List.mem_map, List.mem_filter, wantB, Bool.and_eq_true, beq_iff_eq]
  constructor
  · rintro ⟨e, ⟨h1, ⟨h2, h3⟩, h4⟩, rfl⟩; exact ⟨e, h1, h2, h3, rfl, h4⟩
  · rintro ⟨e, h1, h2, h3, rfl, h4⟩; exact ⟨e, ⟨h1, ⟨h2, h3⟩, h4⟩, rfl⟩
/-- In a valid keyring a key is added once. -/
theorem Valid.first {l : List Ev} (h : Valid l) : ∀ e ∈ l, e.kind = 1 → l.find? (isEv e.key 1) = some e := by
  refine Valid.ind (P := fun l => ∀ e ∈ l, e.kind = 1 → l.find? (isEv e.key 1) = some e) (fun e he => by cases he) (fun l e hv ih hg x hx hk => ?_) l.length l rfl h
  rw [List.find?_append]
  rcases List.mem_append.1 hx with hx | hx
  · rw [ih x hx hk]; rfl
  · have hxe := List.mem_singleton.1 hx
    subst hxe
    have h1 := hg.add hk
    have h2 := keyTime_pos hv.times x.key 1
    rw [decide_eq_false (by omega)] at h2
    rw [Option.isSome_eq_false_iff, Option.isNone_iff_eq_none] at h2
    rw [h2, Option.none_or]
    simp [isEv, hk]
theorem Valid.mem_ukS {l : List Ev} (h : Valid l) {u t k : Int} : k ∈ Pl.ukS l u t ↔ Pl.keyOwner l k = u ∧ kvB l k t = true := by
  rw [Pl.mem_ukS]
  constructor
  · rintro ⟨e, h1, h2, h3, rfl, h4⟩
    refine ⟨?_, h4⟩
    unfold Pl.keyOwner
    rw [h.first e h1 h2]
    exact h3
  · rintro ⟨h1, h2⟩
    have h3 : 0 ≤ Pl.keyTime l k 1 := by
      unfold kvB at h2
      simp only [Bool.and_eq_true, decide_eq_true_eq] at h2
      exact h2.1.1
    have h4 := keyTime_pos h.times k 1
    rw [decide_eq_true h3] at h4
    obtain ⟨e, he⟩ := Option.isSome_iff_exists.1 h4
    have h5 := List.find?_some he
    unfold isEv at h5
    simp only [Bool.and_eq_true, beq_iff_eq] at h5
    refine ⟨e, List.mem_of_find?_eq_some he, h5.1, ?_, h5.2, h2⟩
    unfold Pl.keyOwner at h1
    rw [he] at h1
    exact h1
/-- Rising lists with the same members are one. -/
theorem rising_eq : ∀ {xs ys : List Int}, xs.Pairwise (· < ·) → ys.Pairwise (· < ·) → (∀ a, a ∈ xs ↔ a ∈ ys) → xs = ys
  | [], [], _, _, _ => rfl
  | [], y :: ys, _, _, h => by have := (h y).2 (by simp); cases this
  | x :: xs, [], _, _, h => by have := (h x).1 (by simp); cases this
  | x :: xs, y :: ys, h1, h2, h => by
    have a1 := List.pairwise_cons.1 h1
    have a2 := List.pairwise_cons.1 h2
    have e : x = y := by
      rcases List.mem_cons.1 ((h x).1 (by simp)) with e | e
      · exact e
      · rcases List.mem_cons.1 ((h y).2 (by simp)) with e2 | e2
        · exact e2.symm
        · have := a1.1 y e2
          have := a2.1 x e
          omega
    subst e
    rw [rising_eq a1.2 a2.2 fun a => ?_]
    constructor
    · intro ha
      rcases List.mem_cons.1 ((h a).1 (List.mem_cons_of_mem _ ha)) with e | e
      · subst e; have := a1.1 a ha; omega
      · exact e
    · intro ha
      rcases List.mem_cons.1 ((h a).2 (List.mem_cons_of_mem _ ha)) with e | e
      · subst e; have := a2.1 a ha; omega
      · exact e
end Pl
end Go.Proofs.Ytldepnabkdpokaa
