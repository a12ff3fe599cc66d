/- Two lists matched place by place by swaps: plain Lean, and the row it is done in. -/
import Derived.Test.YthifeaigdobonaaQui
namespace Go.Proofs.Ythifeaigdobonaa
open Go.RowKit

theorem match_found {il o : List Int} (hp : il.Perm o) {k : Nat} (hpre : ∀ j, j < k → o[j]? = il[j]?) {x : Int} (hx : il[k]? = some x) : ∃ a, k ≤ a ∧ a < o.length ∧ o[a]? = some x := by
  have ht : o.take k = il.take k := by
    apply List.ext_getElem?
    intro j
    rw [List.getElem?_take, List.getElem?_take]
    split
    · exact hpre j ‹_›
    · rfl
  have hd : (il.drop k).Perm (o.drop k) := by
    have h1 : (il.take k ++ il.drop k).Perm (il.take k ++ o.drop k) := by rw [List.take_append_drop, ← ht, List.take_append_drop]; exact hp
    exact (List.perm_append_left_iff _).1 h1
  have hm : x ∈ il.drop k := by
    have : (il.drop k)[0]? = some x := by rw [List.getElem?_drop, Nat.add_zero]; exact hx
    exact List.mem_of_getElem? this
  obtain ⟨i, hi⟩ := List.getElem?_of_mem (hd.mem_iff.1 hm)
  rw [List.getElem?_drop] at hi
  exact ⟨k + i, by omega, (List.getElem?_eq_some_iff.1 hi).1, hi⟩

theorem match_swap {il o : List Int} (hp : il.Perm o) {k a : Nat} {x y : Int} (hpre : ∀ j, j < k → o[j]? = il[j]?) (hx : il[k]? = some x) (hka : k ≤ a) (ha : o[a]? = some x) (hk : o[k]? = some y) :
    il.Perm ((o.set k x).set a y) ∧ ∀ j, j < k + 1 → ((o.set k x).set a y)[j]? = il[j]? := by
  obtain ⟨hal, hae⟩ := List.getElem?_eq_some_iff.1 ha
  obtain ⟨hkl, hke⟩ := List.getElem?_eq_some_iff.1 hk
  refine ⟨?_, fun j hj => ?_⟩
  · have := @List.set_set_perm Int o k a hkl hal
    rw [hae, hke] at this
    exact hp.trans this.symm
  · by_cases e : j = k
    · subst e
      by_cases e2 : a = j
      · subst e2
        rw [List.getElem?_set_self (by simpa using hkl)]
        rw [ha] at hk; injection hk with hk; rw [hx, hk]
      · rw [List.getElem?_set_ne (by omega), List.getElem?_set_self hkl, hx]
    · rw [List.getElem?_set_ne (by omega), List.getElem?_set_ne (by omega)]
      exact hpre j (by omega)

/-- A row of ints: its block. -/
theorem int_row {A : Option Addr} {n c : Nat} {l : List Int} {S : Hp} (h : RowAt 3 1 (.slice A n c) n (ints l) S) (hn : 0 < n) :
    ∃ g rest, A = some ⟨g, 0, none⟩ ∧ l.length = n ∧ S = pt g (.cells (ints l ++ rest).toArray 3 (0, 0)) ∧
      ∀ l' : List Int, l'.length = n → RowAt 3 1 (.slice A n c) n (ints l') (pt g (.cells (ints l' ++ rest).toArray 3 (0, 0))) := by
  have hx := h.1
  obtain ⟨g, cap, rest, hv, h2, h3, h4, rfl⟩ := h.some hn
  injection hv with hv _ hc
  subst hc
  refine ⟨g, rest, hv, by simpa [ints] using hx, rfl, fun l' hl' => ?_⟩
  rw [hv]
  exact RowAt.mk 3 1 g n c (ints l') rest (by simp [ints, hl']) h2 h3 (by rw [List.length_append] at h4 ⊢; rw [hx] at h4; simp only [ints, List.length_map, hl']; omega)

theorem int_cell {W w : World} {F : Hp} {g : Nat} {l : List Int} {rest : List Value} {t : TypeId} {fr : Nat × Nat} (h : Holds W w (pt g (.cells (ints l ++ rest).toArray t fr) + F)) {i : Nat} {x : Int} (hi : l[i]? = some x) :
    w.cell? ⟨g, i, none⟩ = some (.int .i64 x) := by
  obtain ⟨hlt, hx⟩ := List.getElem?_eq_some_iff.1 hi
  rw [h.cell]
  simp [ints, List.getElem?_append, hlt, hx]

theorem int_set {l : List Int} {rest : List Value} {i : Nat} {x : Int} (hi : i < l.length) : (ints l ++ rest).toArray.setIfInBounds i (.int .i64 x) = (ints (l.set i x) ++ rest).toArray := by
  simp only [List.setIfInBounds_toArray, ints]
  rw [List.set_append_left _ _ (by simpa using hi), List.map_set]

end Go.Proofs.Ythifeaigdobonaa
