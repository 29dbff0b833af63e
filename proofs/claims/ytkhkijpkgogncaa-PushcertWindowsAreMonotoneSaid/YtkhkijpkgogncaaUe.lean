/- Contract: the library's insertion of one integer into an own row. -/
import Derived.Test.YtkhkijpkgogncaaUd
namespace Go.Proofs.Ytkhkijpkgogncaa
open Go.RowKit

theorem heap_setCell_same {w : World} {g k : Nat} {u : Value} {cur : Array Value} {e : TypeId} {fr : Nat × Nat} (h : w.heap[g]? = some (.cells cur e fr)) : (w.setCell ⟨g, k, none⟩ u).heap[g]? = some (.cells (cur.setIfInBounds k u) e fr) := by
  simp only [World.setCell, Array.getElem?_modify, if_true, h]
  rfl
theorem heap_setCells {g : Nat} {e : TypeId} {fr : Nat × Nat} : ∀ (vs : List Value) (o : Nat) (w : World) (cur : Array Value), w.heap[g]? = some (.cells cur e fr) → o + vs.length ≤ cur.size →
    ∃ cur', (w.setCells g o vs).heap[g]? = some (.cells cur' e fr) ∧ cur'.toList = cur.toList.take o ++ vs ++ cur.toList.drop (o + vs.length)
  | [], o, w, cur, h, _ => ⟨cur, h, by simp⟩
  | v :: r, o, w, cur, h, ho => by
    simp only [List.length_cons] at ho
    obtain ⟨cur', h1, h2⟩ := heap_setCells r (o + 1) (w.setCell ⟨g, o, none⟩ v) (cur.setIfInBounds o v) (heap_setCell_same h) (by rw [Array.size_setIfInBounds]; omega)
    refine ⟨cur', h1, ?_⟩
    rw [h2, Array.toList_setIfInBounds]
    have hlt : o < cur.toList.length := by rw [Array.length_toList]; omega
    have e1 : (cur.toList.set o v).take (o + 1) = cur.toList.take o ++ [v] := by
      rw [List.take_set, List.take_succ_eq_append_getElem hlt, List.set_append_right _ _ (by rw [List.length_take]; omega)]
      rw [List.length_take, show o - min o cur.toList.length = 0 by omega]
      rfl
    have e2 : (cur.toList.set o v).drop (o + 1 + r.length) = cur.toList.drop (o + 1 + r.length) := List.drop_set_of_lt (by omega)
    rw [e1, e2, List.length_cons, show o + 1 + r.length = o + (r.length + 1) by omega]
    simp

theorem below_sets {B b : Nat} {a : World} (hb : B ≤ b) : ∀ (vs : List Value) (o : Nat) {w : World}, Below B a w → Below B a (w.setCells b o vs)
  | [], _, _, h => h
  | _ :: r, o, _, h => below_sets hb r (o + 1) (h.setCell (p := ⟨b, o, none⟩) hb _)

set_option maxHeartbeats 1000000 in
theorem Insert_own (xs : List Int) (i : Nat) (x : Int) (v : Value) (B vb vc : Nat) (w : World) (hown : w.ownsRow B 3 1 v xs.length (intVals xs)) (hi : i ≤ xs.length) (hm : xs.length ≤ 64)
    (hx : w.heap[vb]? = some (.cells #[.int .i64 x] 3 (0, 0))) (hB : B ≤ w.heap.size) (hne : v.ownBlock ≠ some vb) :
    Calls Try.prog 55 #[v, .int .i64 i, .slice (some ⟨vb, 0, none⟩) 1 vc] w fun e w' => ∃ v', e = .returned v' ∧ w'.ownsRow B 3 1 v' (xs.length + 1) (intVals (xs.take i ++ x :: xs.drop i)) ∧ Below B w w' := by
  have hvs : ∀ j u, [Value.int .i64 x][j]? = some u → w.cell? ⟨vb, 0 + j, none⟩ = some u := fun j u hu => by
    unfold World.cell?
    simp only [hx]
    simpa using hu
  have h1v : ∀ u ∈ [Value.int .i64 x], u.oneCell' = true := fun u hu => by
    rw [List.mem_singleton.1 hu]; rfl
  have hl : (intVals xs).length = xs.length := intVals_length xs
  have hL : (intVals (xs.take i ++ x :: xs.drop i)).length = (xs.length + 1) * 1 := by
    rw [intVals_length, List.length_append, List.length_cons, List.length_take, List.length_drop]; omega
  have hLe : intVals (xs.take i ++ x :: xs.drop i) = (intVals xs).take i ++ [.int .i64 x] ++ (intVals xs).drop i := by
    unfold intVals
    simp
  have h63 : xs.length + 1 ≤ maxLen := by unfold maxLen; omega
  rcases hown.2 with ⟨rfl, h0⟩ | ⟨g, c, cur, rfl, hBg, hg, hnc, hcm, hcs, ht⟩
  · have h0 : xs = [] := List.eq_nil_of_length_eq_zero h0
    subst h0
    obtain rfl : i = 0 := by simpa using hi
    refine (Go.Proofs.Any2.slices_Insert_int_end_grow Try.laysNm221 none 0 0 vb 0 1 vc [] [.int .i64 x] w (by omega) (by omega) (by omega) (by omega) rfl rfl (fun _ => rfl) (fun a h => by cases h) hvs h1v).mono ?_
    rintro e w' ⟨rfl, rfl⟩
    have hge := grownCap_ge w (0 + 1) 0 (Try.laysNm221_ren.t 3)
    have hle := grownCap_le_maxLen w (0 + 1) 0 (Try.laysNm221_ren.t 3) (by unfold maxLen; omega)
    generalize grownCap w (0 + 1) 0 (Try.laysNm221_ren.t 3) = K at *
    refine ⟨_, rfl, ⟨hL, .inr ⟨w.heap.size, _, _, rfl, hB, heap_alloc_new w.drew _, hge, hle, ?_, ?_⟩⟩, (Below.refl B w).drew.alloc hB _⟩
    · simp only [List.nil_append, Array.size_append, List.size_toArray, size_zeroCells, List.length_singleton]
      show 1 + _ * 1 = _
      omega
    · simp [intVals]
  · have hcsz : cur.toList.length = c := by rw [Array.length_toList]; omega
    have hcz : cur.size = c := by omega
    have ht1 : cur.toList.take xs.length = intVals xs := by rw [← ht, Nat.mul_one]
    have hgl := (Array.getElem?_eq_some_iff.1 hg).1
    have hvl := (Array.getElem?_eq_some_iff.1 hx).1
    have hvg : vb ≠ g := fun h => hne (by rw [h]; rfl)
    have hcell : ∀ j, w.cell? ⟨g, 0 + j, none⟩ = cur[j]? := fun j => by unfold World.cell?; simp [hg]
    have hcs' : ∀ j u, (intVals xs)[j]? = some u → w.cell? ⟨g, 0 + j, none⟩ = some u := fun j u hu => by
      rw [hcell, ← hu, ← ht1, ← Array.getElem?_toList, List.getElem?_take_of_lt]
      have := (List.getElem?_eq_some_iff.1 hu).1
      omega
    have h1c : ∀ u ∈ intVals xs, u.oneCell' = true := intVals_one _
    have hfz : ∀ j, w.frozen? ⟨g, j, none⟩ = false := fun j => by unfold World.frozen?; simp [hg]
    have hsp : ∀ j, j < c → (w.cell? ⟨g, 0 + j, none⟩).isSome = true := fun j hj => by
      rw [hcell, Array.getElem?_eq_getElem (by omega)]; rfl
    have hcm' : c ≤ 9223372036854775807 := by unfold maxLen at hcm; omega
    by_cases hroom : xs.length + 1 ≤ c
    · by_cases hin : i < xs.length
      · refine (Go.Proofs.Any2.slices_Insert_int_shift Try.laysNm221 g 0 xs.length c i vb 0 1 vc (intVals xs) [.int .i64 x] w hin (by omega) hroom hcm' hvg hl rfl hcs' (fun j hj => hsp j (by omega)) (fun j _ => hfz _) hvs h1c h1v _ _ 1 c (by unfold World.shape?; rw [hx]; rfl) (by unfold World.shape?; rw [hg]; simp only [hcz]; rfl) (by omega) (by unfold World.frozen?; simp [hx]) (by unfold World.frozen?; simp [hx])).mono ?_
        rintro e w' ⟨rfl, rfl⟩
        obtain ⟨c1, k1, l1⟩ := heap_setCells ((intVals xs).drop i) (0 + (i + 1)) w.drew cur hg (by rw [List.length_drop]; omega)
        obtain ⟨c2, k2, l2⟩ := heap_setCells [.int .i64 x] (0 + i) _ c1 k1 (by rw [← Array.length_toList, l1]; simp; omega)
        have hc2 : c2.toList = (intVals xs).take i ++ [.int .i64 x] ++ (intVals xs).drop i ++ cur.toList.drop (xs.length + 1) := by
          rw [l2, l1]
          have e1 : (cur.toList.take (0 + (i + 1)) ++ (intVals xs).drop i ++ cur.toList.drop (0 + (i + 1) + ((intVals xs).drop i).length)).take (0 + i) = (intVals xs).take i := by
            rw [List.append_assoc, List.take_append_of_le_length (by rw [List.length_take]; omega), List.take_take, ← ht1, List.take_take]
            congr 1
            omega
          have e2 : (cur.toList.take (0 + (i + 1)) ++ (intVals xs).drop i ++ cur.toList.drop (0 + (i + 1) + ((intVals xs).drop i).length)).drop (0 + i + [Value.int .i64 x].length) = (intVals xs).drop i ++ cur.toList.drop (xs.length + 1) := by
            rw [List.append_assoc, List.drop_append_of_le_length (by rw [List.length_take]; simp; omega), List.drop_of_length_le (by rw [List.length_take]; simp; omega), List.nil_append, List.length_drop]
            congr 2
            omega
          rw [e1, e2, List.append_assoc, List.append_assoc, List.append_assoc]
        refine ⟨_, rfl, ⟨hL, .inr ⟨g, c, c2, rfl, hBg, k2, hroom, hcm, ?_, ?_⟩⟩, below_sets hBg _ _ (below_sets hBg _ _ (Below.refl B w).drew)⟩
        · rw [← Array.length_toList, hc2]; simp; omega
        · rw [hc2, hLe, List.take_append_of_le_length (by simp; omega), List.take_of_length_le (by simp; omega)]
      · obtain rfl : i = xs.length := by omega
        refine (Go.Proofs.Any2.slices_Insert_int_end_room Try.laysNm221 g 0 xs.length c vb 0 1 vc [.int .i64 x] w (by omega) hroom hcm' rfl (fun j hj => by rw [show 0 + xs.length + j = 0 + (xs.length + j) by omega]; exact hsp _ (by omega)) (fun j _ => hfz _) hvs h1v).mono ?_
        rintro e w' ⟨rfl, rfl⟩
        obtain ⟨c2, k2, l2⟩ := heap_setCells [.int .i64 x] (0 + xs.length) w cur hg (by simp; omega)
        have hc2 : c2.toList = intVals xs ++ [.int .i64 x] ++ cur.toList.drop (xs.length + 1) := by
          rw [l2, Nat.zero_add, ht1]
          rfl
        refine ⟨_, rfl, ⟨hL, .inr ⟨g, c, c2, rfl, hBg, k2, hroom, hcm, ?_, ?_⟩⟩, below_sets hBg _ _ (Below.refl B w)⟩
        · rw [← Array.length_toList, hc2]; simp; omega
        · rw [hc2, hLe, List.take_of_length_le (by omega : (intVals xs).length ≤ xs.length), List.drop_of_length_le (by omega : (intVals xs).length ≤ xs.length), List.append_nil, List.take_append_of_le_length (by simp; omega), List.take_of_length_le (by simp; omega)]
    · have hge := grownCap_ge w (xs.length + 1) c (Try.laysNm221_ren.t 3)
      have hle := grownCap_le_maxLen w (xs.length + 1) c (Try.laysNm221_ren.t 3) h63
      by_cases hin : i < xs.length
      · refine (Go.Proofs.Any2.slices_Insert_int_grow Try.laysNm221 g 0 xs.length c i vb 0 1 vc (intVals xs) [.int .i64 x] w hin (by omega) hnc (by omega) (by omega) hl rfl hcs' hvs h1c h1v).mono ?_
        rintro e w' ⟨rfl, rfl⟩
        generalize grownCap w (xs.length + 1) c (Try.laysNm221_ren.t 3) = K at *
        obtain ⟨A, hA⟩ : ∃ A, ((intVals xs).take i).toArray ++ Builtin.zeroCells (Value.int .i64 0).cells (xs.length + 1 - i) ++ Builtin.zeroCells (Value.int .i64 0).cells (K - (xs.length + 1)) = A := ⟨_, rfl⟩
        have hAs : A.size = K := by
          rw [← hA]
          simp only [Array.size_append, List.size_toArray, size_zeroCells, List.length_take, hl]
          show min i xs.length + _ * 1 + _ * 1 = _
          omega
        have hAt : A.toList.take i = (intVals xs).take i := by
          rw [← hA, Array.append_assoc, Array.toList_append, List.take_append_of_le_length (by rw [List.length_take]; omega), List.take_of_length_le (by rw [List.length_take]; omega)]
        rw [hA]
        obtain ⟨c1, k1, l1⟩ := heap_setCells [.int .i64 x] i (w.alloc (.cells A (Try.laysNm221_ren.t 3))).drew A (heap_alloc_new w _) (by simp; omega)
        obtain ⟨c2, k2, l2⟩ := heap_setCells ((intVals xs).drop i) (i + 1) ((w.alloc (.cells A (Try.laysNm221_ren.t 3))).drew.setCells w.heap.size i [.int .i64 x]).drew c1 k1 (by rw [← Array.length_toList, l1]; simp; omega)
        have hc2 : c2.toList = (intVals xs).take i ++ [.int .i64 x] ++ (intVals xs).drop i ++ A.toList.drop (xs.length + 1) := by
          rw [l2, l1, hAt]
          have hti : ((intVals xs).take i ++ [Value.int .i64 x]).length = i + 1 := by simp; omega
          have e3 : ((intVals xs).take i ++ [Value.int .i64 x]).drop (i + 1 + ((intVals xs).drop i).length) = [] := List.drop_of_length_le (by omega)
          rw [List.take_append_of_le_length (by omega), List.take_of_length_le (by omega), List.drop_append, e3, hti, List.nil_append, List.drop_drop]
          congr 2
          simp
          omega
        refine ⟨_, rfl, ⟨hL, .inr ⟨w.heap.size, K, c2, rfl, hB, k2, hge, hle, ?_, ?_⟩⟩, below_sets hB _ _ (Below.drew (below_sets hB _ _ (Below.drew ((Below.refl B w).alloc hB _))))⟩
        · rw [← Array.length_toList, hc2]; simp; omega
        · rw [hc2, hLe, List.take_append_of_le_length (by simp; omega), List.take_of_length_le (by simp; omega)]
      · obtain rfl : i = xs.length := by omega
        refine (Go.Proofs.Any2.slices_Insert_int_end_grow Try.laysNm221 (some ⟨g, 0, none⟩) xs.length c vb 0 1 vc (intVals xs) [.int .i64 x] w (by omega) hnc (by omega) (by omega) hl rfl (fun h => by cases h) (fun a h => by cases h; exact fun j u hu => by by_cases hj : j = 0 <;> simpa [Addr.add, hj] using hcs' j u hu) hvs h1v).mono ?_
        rintro e w' ⟨rfl, rfl⟩
        generalize grownCap w (xs.length + 1) c (Try.laysNm221_ren.t 3) = K at *
        refine ⟨_, rfl, ⟨hL, .inr ⟨w.heap.size, _, _, rfl, hB, heap_alloc_new w.drew _, hge, hle, ?_, ?_⟩⟩, (Below.refl B w).drew.alloc hB _⟩
        · simp only [Array.size_append, List.size_toArray, size_zeroCells, List.length_append, List.length_singleton, hl]
          show xs.length + 1 + _ * 1 = _
          omega
        · rw [hLe, List.take_of_length_le (by omega : (intVals xs).length ≤ xs.length), List.drop_of_length_le (by omega : (intVals xs).length ≤ xs.length), List.append_nil, Array.toList_append, List.take_append_of_le_length (by simp; omega), List.take_of_length_le (by simp; omega)]
end Go.Proofs.Ytkhkijpkgogncaa
