/- Rows of structs: the cells of a list of records; one cell turned is one record turned. No program is named. -/
import Derived.Test.YthifeaigdobonaaMem
namespace Go.Proofs.Ythifeaigdobonaa
open Go.RowKit

theorem rows_length {α : Type} {enc : α → List Value} {sz : Nat} (h : ∀ x, (enc x).length = sz) (l : List α) : (rows enc l).length = l.length * sz := by
  unfold rows
  induction l with
  | nil => simp
  | cons x l ih => simp only [List.flatMap_cons, List.length_append, h, ih, List.length_cons, Nat.add_mul]; omega

theorem rows_get {α : Type} {enc : α → List Value} {sz : Nat} (h : ∀ x, (enc x).length = sz) : ∀ (l : List α) (i : Nat) (x : α), l[i]? = some x → ∀ j, j < sz → (rows enc l)[i * sz + j]? = (enc x)[j]?
  | [], i, x, hi, _, _ => by simp at hi
  | y :: l, 0, x, hi, j, hj => by
    simp at hi; subst hi
    simp only [rows, List.flatMap_cons, Nat.zero_mul, Nat.zero_add]
    rw [List.getElem?_append_left (by rw [h]; exact hj)]
  | y :: l, i + 1, x, hi, j, hj => by
    simp at hi
    have ih := rows_get h l i x hi j hj
    simp only [rows, List.flatMap_cons] at ih ⊢
    rw [List.getElem?_append_right (by rw [h, Nat.add_mul]; omega), h, show (i + 1) * sz + j - sz = i * sz + j from by rw [Nat.add_mul]; omega]
    exact ih

theorem rows_set {α : Type} {enc : α → List Value} {sz : Nat} (h : ∀ x, (enc x).length = sz) : ∀ (l : List α) (i : Nat) (x y : α) (v : Value), l[i]? = some x → ∀ j, j < sz → (enc x).set j v = enc y →
    (rows enc l).set (i * sz + j) v = rows enc (l.set i y)
  | [], i, x, y, v, hi, _, _, _ => by simp at hi
  | z :: l, 0, x, y, v, hi, j, hj, he => by
    simp at hi; subst hi
    simp only [rows, List.flatMap_cons, Nat.zero_mul, Nat.zero_add, List.set_cons_zero]
    rw [List.set_append_left _ _ (by rw [h]; exact hj), he]
  | z :: l, i + 1, x, y, v, hi, j, hj, he => by
    simp at hi
    have ih := rows_set h l i x y v hi j hj he
    simp only [rows, List.flatMap_cons, List.set_cons_succ] at ih ⊢
    rw [List.set_append_right _ _ (by rw [h, Nat.add_mul]; omega), h, show (i + 1) * sz + j - sz = i * sz + j from by rw [Nat.add_mul]; omega, ih]

/-- The row with something behind it, as an array. -/
def arr {α : Type} (enc : α → List Value) (l : List α) (rest : List Value) : Array Value := (rows enc l ++ rest).toArray

theorem arr_get {α : Type} {enc : α → List Value} {sz : Nat} (h : ∀ x, (enc x).length = sz) {l : List α} {rest : List Value} {i : Nat} {x : α} (hi : l[i]? = some x) {j : Nat} (hj : j < sz) : (arr enc l rest)[i * sz + j]? = (enc x)[j]? := by
  unfold arr
  have hlt : i < l.length := (List.getElem?_eq_some_iff.1 hi).1
  have : i * sz + j < (rows enc l).length := by
    rw [rows_length h]
    have : (i + 1) * sz ≤ l.length * sz := Nat.mul_le_mul_right _ hlt
    rw [Nat.add_mul] at this; omega
  simp only [List.getElem?_toArray]
  rw [List.getElem?_append_left this]
  exact rows_get h l i x hi j hj

theorem arr_size {α : Type} {enc : α → List Value} {sz : Nat} (h : ∀ x, (enc x).length = sz) {l : List α} {rest : List Value} {i : Nat} (hi : i < l.length) {j : Nat} (hj : j < sz) : i * sz + j < (arr enc l rest).size := by
  have := arr_get h (rest := rest) (List.getElem?_eq_getElem hi) hj
  rcases Nat.lt_or_ge (i * sz + j) (arr enc l rest).size with h' | h'
  · exact h'
  · rw [Array.getElem?_eq_none h'] at this
    have hh := h l[i]
    rw [eq_comm, List.getElem?_eq_none_iff] at this
    omega

theorem arr_set {α : Type} {enc : α → List Value} {sz : Nat} (h : ∀ x, (enc x).length = sz) {l : List α} {rest : List Value} {i : Nat} {x y : α} {v : Value} (hi : l[i]? = some x) {j : Nat} (hj : j < sz) (he : (enc x).set j v = enc y) :
    (arr enc l rest).setIfInBounds (i * sz + j) v = arr enc (l.set i y) rest := by
  have hlt : i < l.length := (List.getElem?_eq_some_iff.1 hi).1
  have : i * sz + j < (rows enc l).length := by
    rw [rows_length h]
    have : (i + 1) * sz ≤ l.length * sz := Nat.mul_le_mul_right _ hlt
    rw [Nat.add_mul] at this; omega
  unfold arr
  simp only [List.setIfInBounds_toArray]
  rw [List.set_append_left _ _ this, rows_set h l i x y v hi j hj he]

/-- The row of a slice, opened: its block, what lies behind. -/
theorem row_open {α : Type} {enc : α → List Value} {e : TypeId} {sz : Nat} {v : Value} {l : List α} {S : Hp} (h : RowAt e sz v l.length (rows enc l) S) (hn : 0 < l.length) :
    ∃ g cap rest, v = .slice (some ⟨g, 0, none⟩) l.length cap ∧ S = pt g (.cells (arr enc l rest) e (0, 0)) ∧
      ∀ l' : List α, l'.length = l.length → (∀ x, (enc x).length = sz) → RowAt e sz v l'.length (rows enc l') (pt g (.cells (arr enc l' rest) e (0, 0))) := by
  obtain ⟨g, cap, rest, rfl, h1, h2, h3, rfl⟩ := h.some hn
  refine ⟨g, cap, rest, rfl, rfl, fun l' hl hsz => ?_⟩
  have e1 := rows_length hsz l'
  have e2 := rows_length hsz l
  have r := RowAt.mk e sz g l'.length cap (rows enc l') rest e1 (by omega) h2 (by rw [List.length_append, e1, hl, ← e2, ← List.length_append]; exact h3)
  rw [hl] at r
  rw [hl]
  exact r

end Go.Proofs.Ythifeaigdobonaa
