/- Total orders in plain words: no program in sight. -/
import Derived.WalkKit
import Derived.Lib.Bytealg
namespace Go.Proofs.YthnhajihkdgifaaDoor
namespace Pl

/-- c is a total order on what p names. -/
structure TO {α : Type} (c : α → α → Int) (p : α → Prop) : Prop where
  rng : ∀ a b, c a b = -1 ∨ c a b = 0 ∨ c a b = 1
  anti : ∀ a b, p a → p b → c b a = - c a b
  eq : ∀ a b, p a → p b → (c a b = 0 ↔ a = b)
  tr : ∀ a b d, p a → p b → p d → c a b ≤ 0 → c b d ≤ 0 → c a d ≤ 0

theorem TO.lt_le {α : Type} {c : α → α → Int} {p : α → Prop} (T : TO c p) {a b d : α} (ha : p a) (hb : p b) (hd : p d) (h1 : c a b < 0) (h2 : c b d ≤ 0) : c a d < 0 := by
  have h3 := T.tr a b d ha hb hd (by omega) h2
  by_cases h0 : c a d = 0
  · have e := (T.eq a d ha hd).1 h0
    subst e
    have := T.anti a b ha hb
    omega
  · omega
theorem TO.le_lt {α : Type} {c : α → α → Int} {p : α → Prop} (T : TO c p) {a b d : α} (ha : p a) (hb : p b) (hd : p d) (h1 : c a b ≤ 0) (h2 : c b d < 0) : c a d < 0 := by
  have h3 := T.tr a b d ha hb hd h1 (by omega)
  by_cases h0 : c a d = 0
  · have e := (T.eq a d ha hd).1 h0
    subst e
    have := T.anti a b ha hb
    omega
  · omega
theorem TO.mono {α : Type} {c : α → α → Int} {p q : α → Prop} (T : TO c p) (h : ∀ a, q a → p a) : TO c q :=
  ⟨T.rng, fun a b ha hb => T.anti a b (h a ha) (h b hb), fun a b ha hb => T.eq a b (h a ha) (h b hb), fun a b d ha hb hd => T.tr a b d (h a ha) (h b hb) (h d hd)⟩
theorem TO.pull {α β : Type} {c : β → β → Int} {p : β → Prop} (T : TO c p) (f : α → β) (q : α → Prop) (h : ∀ a, q a → p (f a)) (inj : ∀ a b, q a → q b → f a = f b → a = b) : TO (fun a b => c (f a) (f b)) q :=
  ⟨fun a b => T.rng _ _, fun a b ha hb => T.anti _ _ (h a ha) (h b hb), fun a b ha hb => ⟨fun e => inj a b ha hb ((T.eq _ _ (h a ha) (h b hb)).1 e), fun e => by subst e; exact (T.eq _ _ (h _ ha) (h _ ha)).2 rfl⟩, fun a b d ha hb hd => T.tr _ _ _ (h a ha) (h b hb) (h d hd)⟩

def sgn (x y : Int) : Int := if x < y then -1 else if y < x then 1 else 0
theorem sgn_TO : TO sgn (fun _ => True) := by
  refine ⟨fun a b => ?_, fun a b _ _ => ?_, fun a b _ _ => ?_, fun a b d _ _ _ => ?_⟩ <;> unfold sgn <;> repeat' split <;> omega

def lexP {α β : Type} (c : α → α → Int) (e : β → β → Int) (a b : α × β) : Int := if c a.1 b.1 = 0 then e a.2 b.2 else c a.1 b.1
theorem lexP_TO {α β : Type} {c : α → α → Int} {e : β → β → Int} {p : α → Prop} {q : β → Prop} (T : TO c p) (U : TO e q) : TO (lexP c e) (fun a => p a.1 ∧ q a.2) := by
  refine ⟨fun a b => ?_, fun a b ha hb => ?_, fun a b ha hb => ?_, fun a b d ha hb hd h1 h2 => ?_⟩
  · unfold lexP; split
    · exact U.rng _ _
    · exact T.rng _ _
  · unfold lexP
    have h1 := T.anti _ _ ha.1 hb.1
    have h2 := U.anti _ _ ha.2 hb.2
    repeat' split <;> omega
  · unfold lexP
    have h1 := T.eq _ _ ha.1 hb.1
    have h2 := U.eq _ _ ha.2 hb.2
    split
    · rename_i h; rw [h2]
      exact ⟨fun h3 => Prod.ext (h1.1 h) h3, fun h3 => by rw [h3]⟩
    · rename_i h
      exact ⟨fun h3 => absurd h3 h, fun h3 => absurd (h1.2 (by rw [h3])) h⟩
  · unfold lexP at h1 h2 ⊢
    by_cases e1 : c a.1 b.1 = 0
    · rw [if_pos e1] at h1
      have e1' := (T.eq _ _ ha.1 hb.1).1 e1
      rw [← e1'] at h2
      by_cases e2 : c a.1 d.1 = 0
      · rw [if_pos e2] at h2 ⊢
        exact U.tr _ _ _ ha.2 hb.2 hd.2 h1 h2
      · rw [if_neg e2] at h2 ⊢
        exact h2
    · rw [if_neg e1] at h1
      have h3 : c b.1 d.1 ≤ 0 := by
        by_cases e2 : c b.1 d.1 = 0
        · omega
        · rw [if_neg e2] at h2; exact h2
      have h4 := T.lt_le ha.1 hb.1 hd.1 (show c a.1 b.1 < 0 by omega) h3
      rw [if_neg (by omega)]
      omega

def lexL {α : Type} (c : α → α → Int) : List α → List α → Int
  | [], [] => 0
  | [], _ :: _ => -1
  | _ :: _, [] => 1
  | a :: a2, b :: b2 => if c a b = 0 then lexL c a2 b2 else c a b
theorem lexL_TO {α : Type} {c : α → α → Int} {p : α → Prop} (T : TO c p) : TO (lexL c) (fun l => ∀ x ∈ l, p x) := by
  refine ⟨?_, ?_, ?_, ?_⟩
  · intro a
    induction a with
    | nil => intro b; cases b <;> simp [lexL]
    | cons x a ih =>
      intro b
      cases b with
      | nil => simp [lexL]
      | cons y b =>
        rw [lexL]; split
        · exact ih b
        · exact T.rng _ _
  · intro a
    induction a with
    | nil => intro b _ _; cases b <;> simp [lexL]
    | cons x a ih =>
      intro b ha hb
      cases b with
      | nil => simp [lexL]
      | cons y b =>
        have h1 := T.anti x y (ha x (by simp)) (hb y (by simp))
        have h2 := ih b (fun z hz => ha z (by simp [hz])) (fun z hz => hb z (by simp [hz]))
        rw [lexL, lexL]
        repeat' split <;> omega
  · intro a
    induction a with
    | nil => intro b _ _; cases b <;> simp [lexL]
    | cons x a ih =>
      intro b ha hb
      cases b with
      | nil => simp [lexL]
      | cons y b =>
        have h1 := T.eq x y (ha x (by simp)) (hb y (by simp))
        have h2 := ih b (fun z hz => ha z (by simp [hz])) (fun z hz => hb z (by simp [hz]))
        rw [lexL]
        split
        · rename_i h; rw [h2, h1.1 h]; simp
        · rename_i h
          exact ⟨fun h3 => absurd h3 h, fun h3 => by cases h3; exact absurd (h1.2 rfl) h⟩
  · intro a
    induction a with
    | nil => intro b d _ _ _ h1 h2; cases d <;> simp [lexL]
    | cons x a ih =>
      intro b d ha hb hd h1 h2
      cases b with
      | nil => simp [lexL] at h1
      | cons y b =>
        cases d with
        | nil => simp [lexL] at h2
        | cons z d =>
          have px := ha x (by simp)
          have py := hb y (by simp)
          have pz := hd z (by simp)
          rw [lexL] at h1 h2 ⊢
          by_cases e1 : c x y = 0
          · rw [if_pos e1] at h1
            have e1' := (T.eq _ _ px py).1 e1
            subst e1'
            by_cases e2 : c x z = 0
            · rw [if_pos e2] at h2 ⊢
              exact ih b d (fun u hu => ha u (by simp [hu])) (fun u hu => hb u (by simp [hu])) (fun u hu => hd u (by simp [hu])) h1 h2
            · rw [if_neg e2] at h2 ⊢
              exact h2
          · rw [if_neg e1] at h1
            have h3 : c y z ≤ 0 := by
              by_cases e2 : c y z = 0
              · omega
              · rw [if_neg e2] at h2; exact h2
            have h4 := T.lt_le px py pz (show c x y < 0 by omega) h3
            rw [if_neg (by omega)]
            omega

theorem byte_TO : TO (fun a b : UInt8 => sgn a.toNat b.toNat) (fun _ => True) :=
  sgn_TO.pull (fun a : UInt8 => (a.toNat : Int)) _ (fun _ h => h) (fun a b _ _ h => UInt8.toNat_inj.1 (by omega))
theorem compareBytes_lex : ∀ a b : List UInt8, Lib.compareBytes a b = lexL (fun a b : UInt8 => sgn a.toNat b.toNat) a b
  | [], [] => rfl
  | [], _ :: _ => rfl
  | _ :: _, [] => rfl
  | a :: a2, b :: b2 => by
    rw [Lib.compareBytes, lexL, compareBytes_lex a2 b2]
    simp only [sgn, UInt8.lt_iff_toNat_lt]
    repeat' split <;> omega
theorem compareBytes_TO : TO Lib.compareBytes (fun _ => True) := by
  have h := (lexL_TO byte_TO).mono (q := fun _ => True) (fun _ _ _ _ => trivial)
  rwa [show (lexL fun a b : UInt8 => sgn a.toNat b.toNat) = Lib.compareBytes from funext fun a => funext fun b => (compareBytes_lex a b).symm] at h
end Pl
end Go.Proofs.YthnhajihkdgifaaDoor
