/- Plain facts on pushes: replays, windows, certified certificates. -/
import Derived.Test.YtkhkijpkgogncaaUm
namespace Go.Proofs.Ytkhkijpkgogncaa
open Go.RowKit

namespace Pl
theorem Used.of {xs : List Int} (h1 : xs.length ≤ 40) (h2 : ∀ x ∈ xs, isDigestB x = true) (h3 : xs.Pairwise (· < ·)) : Used xs := by
  refine ⟨h1, fun i hi => ?_, fun i h0 hi => ?_⟩
  · rw [List.getD_eq_getElem?_getD, List.getElem?_eq_getElem hi]
    exact h2 _ (List.getElem_mem hi)
  · rw [List.pairwise_iff_getElem] at h3
    have := h3 (i - 1) i (by omega) hi (by omega)
    simpa [List.getD_eq_getElem?_getD, hi, (by omega : i - 1 < xs.length)] using this
theorem Used.digest {xs : List Int} (h : Used xs) : ∀ x ∈ xs, isDigestB x = true := by
  intro x hx
  obtain ⟨i, hi, rfl⟩ := List.mem_iff_getElem.1 hx
  have := h.dig i hi
  rwa [List.getD_eq_getElem?_getD, List.getElem?_eq_getElem hi] at this
theorem mem_insS {xs : List Int} {n a : Int} : a ∈ insS xs n ↔ a = n ∨ a ∈ xs := by
  have e := List.takeWhile_append_dropWhile (p := fun x : Int => decide (x < n)) (l := xs)
  unfold insS
  constructor
  · intro h
    rcases List.mem_append.1 h with h | h
    · exact .inr (by rw [← e]; exact List.mem_append_left _ h)
    · rcases List.mem_cons.1 h with h | h
      · exact .inl h
      · exact .inr (by rw [← e]; exact List.mem_append_right _ h)
  · rintro (rfl | h)
    · simp
    · rw [← e] at h
      rcases List.mem_append.1 h with h | h
      · exact List.mem_append_left _ h
      · exact List.mem_append_right _ (List.mem_cons_of_mem _ h)
theorem length_insS (xs : List Int) (n : Int) : (insS xs n).length = xs.length + 1 := by
  have e := congrArg List.length (List.takeWhile_append_dropWhile (p := fun x : Int => decide (x < n)) (l := xs))
  unfold insS
  rw [List.length_append] at e ⊢
  rw [List.length_cons]
  omega
theorem pairwise_insS {n : Int} : ∀ {xs : List Int}, xs.Pairwise (· < ·) → n ∉ xs → (insS xs n).Pairwise (· < ·)
  | [], _, _ => by simp [insS]
  | x :: xs, h, hn => by
    have h2 := List.pairwise_cons.1 h
    have hn2 : n ∉ xs := fun h => hn (List.mem_cons_of_mem _ h)
    have hne : x ≠ n := fun h => hn (by rw [h]; exact List.mem_cons_self)
    by_cases hx : x < n
    · have e : insS (x :: xs) n = x :: insS xs n := by
        unfold insS
        rw [List.takeWhile_cons_of_pos (by simpa using hx), List.dropWhile_cons_of_pos (by simpa using hx), List.cons_append]
      rw [e]
      refine List.pairwise_cons.2 ⟨fun y hy => ?_, pairwise_insS h2.2 hn2⟩
      rcases mem_insS.1 hy with rfl | hy
      · exact hx
      · exact h2.1 y hy
    · have e : insS (x :: xs) n = n :: x :: xs := by
        unfold insS
        rw [List.takeWhile_cons_of_neg (by simpa using hx), List.dropWhile_cons_of_neg (by simpa using hx), List.nil_append]
      rw [e]
      refine List.pairwise_cons.2 ⟨fun y hy => ?_, h⟩
      rcases List.mem_cons.1 hy with rfl | hy
      · omega
      · have := h2.1 y hy
        omega
theorem Used.insS {xs : List Int} (h : Used xs) {n : Int} (hn : n ∉ xs) (hd : isDigestB n = true) (hl : xs.length ≠ 40) : Used (insS xs n) :=
  Used.of (by rw [length_insS]; have := h.len; omega) (fun x hx => by
    rcases mem_insS.1 hx with rfl | hx
    · exact hd
    · exact h.digest x hx) (pairwise_insS h.pairwise hn)
theorem usedC_ok {xs : List Int} (h : Used xs) : usedC xs = 0 := by
  rcases usedAt_cases xs xs.length 0 with ⟨e, _⟩ | e
  · unfold usedC
    rw [if_pos h.len, e]
  · exfalso
    have all : ∀ f k, k + f = xs.length → usedAt xs f k = 0 := by
      intro f
      induction f with
      | zero => intro k _; rfl
      | succ f ih =>
        intro k hk
        rw [usedAt, if_pos (h.dig k (by omega)), if_neg (by intro h2; have := h.inc k h2.1 (by omega); omega)]
        exact ih (k + 1) (by omega)
    rw [all xs.length 0 (by omega)] at e
    cases e
theorem Pushed.digest {secret now window : Int} {used : List Int} {c : Cert} (h : Pushed secret now window used c) : isDigestB c.sig = true := by
  rw [h.sig]; exact signS_digest _ _
theorem Pushed.nonceD {secret now window : Int} {used : List Int} {c : Cert} (h : Pushed secret now window used c) : isDigestB c.nonce = true := by
  rw [h.nonce]; exact signS_digest _ _
/-- A certificate whose nonce is used is refused. -/
theorem pushF_used {secret now window : Int} {used l : List Int} {c : Cert} (h : Pushed secret now window used c) (hl : Used l) (hc : c.nonce ∈ l) : pushF secret now window l c = (7, 0) := by
  unfold pushF
  rw [h.cert, if_pos rfl, if_pos h.digest, if_pos h.hkey, if_pos (by rw [h.hnow, h.hwin]; rfl), if_pos (usedC_ok hl), if_neg (by simp [h.fresh, h.recent]), if_neg (by simp [h.nonce]), if_neg (by simp [h.sig]), if_pos (by simpa using hc)]
theorem Pushed.not {secret now window : Int} {used : List Int} {c : Cert} (h : Pushed secret now window used c) : c.nonce ∉ used := by
  have := h.new
  simpa using this
theorem Pushed.next {secret now window : Int} {used : List Int} {c : Cert} (h : Pushed secret now window used c) : Used (Pl.insS used c.nonce) := h.hused.insS h.not h.nonceD h.room
theorem Pushed.longer {secret now window longer : Int} {used : List Int} {c : Cert} (h : Pushed secret now window used c) (hl : inB longer window 100000 = true) : Pushed secret now longer used c := by
  have hb := inB_true.1 hl
  have hw := isTimeB_true.1 h.hwin
  have hr := h.recent
  exact { h with hwin := isTimeB_true.2 ⟨by omega, hb.2⟩, recent := by omega }
theorem usedC_nil : usedC [] = 0 := rfl
/-- A certificate that was signed with a fresh nonce. -/
theorem pushF_signed {secret now window : Int} {c : Cert} (hF : certF c = (0, 0)) (hk : isKeyB secret = true) (hn : isTimeB now = true) (hw : isTimeB window = true) (hc : c.nonce = nonceS secret c.time) :
    pushF secret now window [] c.signed = if (decide (now < c.time) || decide (c.time < now - window)) = true then (16, 0) else (0, 0) := by
  have h1 : certF c.signed = (0, 0) := hF
  have h2 : isDigestB c.signed.sig = true := signS_digest _ _
  unfold pushF
  rw [h1, if_pos rfl, if_pos h2, if_pos hk, if_pos (by rw [hn, hw]; rfl), if_pos usedC_nil]
  show (if (decide (now < c.time) || decide (c.time < now - window)) = true then ((16, 0) : Int × Int) else _) = _
  congr 1
  rw [if_neg (by simp [Cert.signed, hc]), if_neg (by intro h; exact h rfl), if_neg (by simp), if_neg (by simp)]
theorem insS_nil (n : Int) : insS [] n = [n] := rfl
end Pl
end Go.Proofs.Ytkhkijpkgogncaa
