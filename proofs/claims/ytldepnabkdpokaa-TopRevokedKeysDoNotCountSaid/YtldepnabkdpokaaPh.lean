/- Plain words of package pushcert: no program in sight. -/
import Derived.Test.YtldepnabkdpokaaPb
namespace Go.Proofs.Ytldepnabkdpokaa
open Go.RowKit
namespace Pl

structure Cert where
  nonce : Int
  time : Int
  key : Int
  ref : ByteArray
  old : Int
  new : Int
  sig : Int
def Cert.zero : Cert := ⟨0, 0, 0, ⟨#[]⟩, 0, 0, 0⟩
def isTimeB (n : Int) : Bool := inB n 0 100000
theorem isTimeB_true {n : Int} : isTimeB n = true ↔ 0 ≤ n ∧ n ≤ 100000 := inB_true

/-- The fault of a certificate. -/
def certB (c : Cert) : Bool := isDigestB c.nonce && isTimeB c.time && isKeyB c.key && isDigestB c.old && isDigestB c.new
def certF (c : Cert) : Int × Int := if certB c = true then (if c.ref.size = 0 ∨ 60 < c.ref.size then (12, 0) else (0, 0)) else (3, 0)
def certNs (c : Cert) : List Int := [c.nonce, c.time, c.key, c.old, c.new]
def certS (c : Cert) : Int := signS c.key (msgS (certNs c) ++ c.ref.data.toList)
def Cert.signed (c : Cert) : Cert := ⟨c.nonce, c.time, c.key, c.ref, c.old, c.new, certS c⟩
def certV (c : Cert) : Cert := if (certF c).1 = 0 then c.signed else Cert.zero
theorem certF_cases (c : Cert) : certF c = (0, 0) ∧ certB c = true ∧ c.ref.size ≠ 0 ∧ c.ref.size ≤ 60 ∨ (certF c).1 ≠ 0 := by
  unfold certF
  by_cases h : certB c = true
  · rw [if_pos h]
    by_cases h2 : c.ref.size = 0 ∨ 60 < c.ref.size
    · rw [if_pos h2]; exact .inr (by decide)
    · rw [if_neg h2]; exact .inl ⟨rfl, h, by omega, by omega⟩
  · rw [if_neg h]; exact .inr (by decide)
theorem certB_true {c : Cert} (h : certB c = true) : isDigestB c.nonce = true ∧ isTimeB c.time = true ∧ isKeyB c.key = true ∧ isDigestB c.old = true ∧ isDigestB c.new = true := by
  simp only [certB, Bool.and_eq_true] at h
  exact ⟨h.1.1.1.1, h.1.1.1.2, h.1.1.2, h.1.2, h.2⟩
theorem time_digest {n : Int} (h : isTimeB n = true) : isDigestB n = true := by
  have := isTimeB_true.1 h
  exact isDigestB_true.2 (by omega)
theorem key_digest {n : Int} (h : isKeyB n = true) : isDigestB n = true := by
  have := isKeyB_true.1 h
  exact isDigestB_true.2 (by omega)
theorem certNs_digest {c : Cert} (h : certB c = true) : ∀ x ∈ certNs c, isDigestB x = true := by
  obtain ⟨h1, h2, h3, h4, h5⟩ := certB_true h
  intro x hx
  simp only [certNs, List.mem_cons, List.not_mem_nil, or_false] at hx
  rcases hx with rfl | rfl | rfl | rfl | rfl
  · exact h1
  · exact time_digest h2
  · exact key_digest h3
  · exact h4
  · exact h5

/-- The nonce of a time. -/
def nonceS (secret time : Int) : Int := signS secret (msgS [time])
def nonceF (secret time : Int) : Int × Int := if isKeyB secret = true then (if isTimeB time = true then (0, 0) else (3, 0)) else (3, -1)
def nonceV (secret time : Int) : Int := if (nonceF secret time).1 = 0 then nonceS secret time else 0

/-- The error of used nonces from place k on; f: how many are left. -/
def usedAt (xs : List Int) : Nat → Nat → Int
  | 0, _ => 0
  | f + 1, k => if isDigestB (xs.getD k 0) = true then (if 0 < k ∧ xs.getD k 0 ≤ xs.getD (k - 1) 0 then 5 else usedAt xs f (k + 1)) else 5
def usedC (xs : List Int) : Int := if xs.length ≤ 40 then usedAt xs xs.length 0 else 2
theorem usedAt_step (xs : List Int) (k : Nat) (hk : k < xs.length) : usedAt xs (xs.length - k) k = if isDigestB xs[k] = true then (if 0 < k ∧ xs[k] ≤ xs.getD (k - 1) 0 then 5 else usedAt xs (xs.length - (k + 1)) (k + 1)) else 5 := by
  have e : xs.length - k = (xs.length - (k + 1)) + 1 := by omega
  rw [e, usedAt, List.getD_eq_getElem?_getD, List.getElem?_eq_getElem hk]
  rfl
theorem usedAt_end (xs : List Int) : usedAt xs (xs.length - xs.length) xs.length = 0 := by rw [Nat.sub_self]; rfl
theorem usedAt_cases (xs : List Int) : ∀ f k, usedAt xs f k = 0 ∧ (∀ i, k ≤ i → i < k + f → isDigestB (xs.getD i 0) = true ∧ (0 < i → xs.getD (i - 1) 0 < xs.getD i 0)) ∨ usedAt xs f k = 5
  | 0, k => .inl ⟨rfl, fun i h1 h2 => by omega⟩
  | f + 1, k => by
    rw [usedAt]
    by_cases h : isDigestB (xs.getD k 0) = true
    · rw [if_pos h]
      by_cases h2 : 0 < k ∧ xs.getD k 0 ≤ xs.getD (k - 1) 0
      · rw [if_pos h2]; exact .inr rfl
      · rw [if_neg h2]
        rcases usedAt_cases xs f (k + 1) with ⟨e, g⟩ | g
        · refine .inl ⟨e, fun i h3 h4 => ?_⟩
          by_cases hi : i = k
          · subst hi
            exact ⟨h, fun h5 => by
              rcases Int.lt_or_le (xs.getD (i - 1) 0) (xs.getD i 0) with h6 | h6
              · exact h6
              · exact absurd ⟨h5, h6⟩ h2⟩
          · exact g i (by omega) (by omega)
        · exact .inr g
    · rw [if_neg h]; exact .inr rfl
/-- Used nonces without error. -/
structure Used (xs : List Int) : Prop where
  len : xs.length ≤ 40
  dig : ∀ i, i < xs.length → isDigestB (xs.getD i 0) = true
  inc : ∀ i, 0 < i → i < xs.length → xs.getD (i - 1) 0 < xs.getD i 0
theorem usedC_cases (xs : List Int) : usedC xs = 0 ∧ Used xs ∨ usedC xs ≠ 0 := by
  unfold usedC
  by_cases h : xs.length ≤ 40
  · rw [if_pos h]
    rcases usedAt_cases xs xs.length 0 with ⟨e, g⟩ | g
    · exact .inl ⟨e, h, fun i hi => (g i (by omega) (by omega)).1, fun i h0 hi => (g i (by omega) (by omega)).2 h0⟩
    · exact .inr (by rw [g]; decide)
  · rw [if_neg h]; exact .inr (by decide)
theorem Used.mono {xs : List Int} (h : Used xs) : ∀ (j i : Nat), i < j → j < xs.length → xs.getD i 0 < xs.getD j 0
  | 0, i, h1, _ => by omega
  | j + 1, i, h1, h2 => by
    have h3 := h.inc (j + 1) (by omega) h2
    rw [Nat.add_sub_cancel] at h3
    by_cases e : i = j
    · subst e; exact h3
    · have := h.mono j i (by omega) (by omega)
      omega
theorem Used.pairwise {xs : List Int} (h : Used xs) : xs.Pairwise (· < ·) := by
  rw [List.pairwise_iff_getElem]
  intro i j hi hj hij
  have := h.mono j i hij hj
  simpa [List.getD_eq_getElem?_getD, hi, hj] using this

/-- A number inserted into an increasing list. -/
def insS (xs : List Int) (n : Int) : List Int := xs.takeWhile (fun x => decide (x < n)) ++ n :: xs.dropWhile (fun x => decide (x < n))
theorem countP_takeWhile {n : Int} : ∀ {xs : List Int}, xs.Pairwise (· < ·) → xs.countP (fun x => decide (x < n)) = (xs.takeWhile (fun x => decide (x < n))).length
  | [], _ => rfl
  | x :: xs, h => by
    have h2 := List.pairwise_cons.1 h
    by_cases hx : x < n
    · rw [List.countP_cons_of_pos (by simpa using hx), List.takeWhile_cons_of_pos (by simpa using hx), List.length_cons, countP_takeWhile h2.2]
    · rw [List.takeWhile_cons_of_neg (by simpa using hx), List.countP_cons_of_neg (by simpa using hx)]
      rw [List.length_nil, List.countP_eq_zero]
      intro y hy
      have := h2.1 y hy
      simp
      omega
theorem insS_eq {xs : List Int} (h : xs.Pairwise (· < ·)) (n : Int) : insS xs n = xs.take (xs.countP (fun x => decide (x < n))) ++ n :: xs.drop (xs.countP (fun x => decide (x < n))) := by
  rw [countP_takeWhile h]
  unfold insS
  have e := List.takeWhile_append_dropWhile (p := fun x : Int => decide (x < n)) (l := xs)
  generalize xs.takeWhile (fun x => decide (x < n)) = a at *
  generalize xs.dropWhile (fun x => decide (x < n)) = b at *
  subst e
  rw [List.take_left, List.drop_left]

/-- What the check of a certificate says. -/
def pushF (secret now window : Int) (used : List Int) (c : Cert) : Int × Int :=
  if (certF c).1 = 0 then
    if isDigestB c.sig = true then
      if isKeyB secret = true then
        if (isTimeB now && isTimeB window) = true then
          if usedC used = 0 then
            if (decide (now < c.time) || decide (c.time < now - window)) = true then (16, 0)
            else if c.nonce ≠ nonceS secret c.time then (18, 1)
            else if c.sig ≠ certS c then (18, 2)
            else if used.contains c.nonce = true then (7, 0)
            else if used.length = 40 then (14, 0)
            else (0, 0)
          else (usedC used, -3)
        else (3, -2)
      else (3, -1)
    else (3, 1)
  else certF c
def pushV (secret now window : Int) (used : List Int) (c : Cert) : List Int := if (pushF secret now window used c).1 = 0 then insS used c.nonce else []
/-- What an accepted certificate has. -/
structure Pushed (secret now window : Int) (used : List Int) (c : Cert) : Prop where
  cert : certF c = (0, 0)
  hkey : isKeyB secret = true
  hnow : isTimeB now = true
  hwin : isTimeB window = true
  hused : Used used
  fresh : ¬ now < c.time
  recent : ¬ c.time < now - window
  nonce : c.nonce = nonceS secret c.time
  sig : c.sig = certS c
  new : used.contains c.nonce = false
  room : used.length ≠ 40
theorem pushF_ok {secret now window : Int} {used : List Int} {c : Cert} (h : (pushF secret now window used c).1 = 0) : pushF secret now window used c = (0, 0) ∧ Pushed secret now window used c := by
  unfold pushF at h ⊢
  split at h
  · rename_i h1
    rw [if_pos h1]
    split at h
    · rename_i h2
      rw [if_pos h2]
      split at h
      · rename_i h3
        rw [if_pos h3]
        split at h
        · rename_i h4
          rw [if_pos h4]
          split at h
          · rename_i h5
            rw [if_pos h5]
            split at h
            · cases h
            · rename_i h6
              rw [if_neg h6]
              split at h
              · cases h
              · rename_i h7
                rw [if_neg h7]
                split at h
                · cases h
                · rename_i h8
                  rw [if_neg h8]
                  split at h
                  · cases h
                  · rename_i h9
                    rw [if_neg h9]
                    split at h
                    · cases h
                    · rename_i h10
                      rw [if_neg h10]
                      simp only [Bool.and_eq_true] at h4
                      simp only [Bool.or_eq_true, decide_eq_true_eq, not_or] at h6
                      refine ⟨rfl, ?_, h3, h4.1, h4.2, ?_, h6.1, h6.2, by simpa using h7, by simpa using h8, by simpa using h9, h10⟩
                      · rcases certF_cases c with ⟨h, _⟩ | h
                        · exact h
                        · exact absurd h1 h
                      · rcases usedC_cases used with ⟨_, h⟩ | h
                        · exact h
                        · exact absurd h5 h
          · rename_i h5; exact absurd h h5
        · cases h
      · cases h
    · cases h
  · rename_i h1; exact absurd h h1
theorem pushF_of {secret now window : Int} {used : List Int} {c : Cert} (hd : isDigestB c.sig = true) (h : Pushed secret now window used c) : pushF secret now window used c = (0, 0) := by
  have hu : usedC used = 0 := by
    unfold usedC
    rw [if_pos h.hused.len]
    rcases usedAt_cases used used.length 0 with ⟨e, _⟩ | e
    · exact e
    · exfalso
      have all : ∀ f k, k + f = used.length → usedAt used f k = 0 := by
        intro f
        induction f with
        | zero => intro k _; rfl
        | succ f ih =>
          intro k hk
          rw [usedAt, if_pos (h.hused.dig k (by omega)), if_neg (by intro h2; have := h.hused.inc k h2.1 (by omega); omega)]
          exact ih (k + 1) (by omega)
      rw [all used.length 0 (by omega)] at e
      cases e
  unfold pushF
  rw [h.cert, if_pos rfl, if_pos hd, if_pos h.hkey, if_pos (by rw [h.hnow, h.hwin]; rfl), if_pos hu, if_neg (by simp [h.fresh, h.recent]), if_neg (by simp [h.nonce]), if_neg (by simp [h.sig]), if_neg (by rw [h.new]; decide), if_neg h.room]
end Pl
end Go.Proofs.Ytldepnabkdpokaa
