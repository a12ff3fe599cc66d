/- Bookkeeping of the blocks that are alive: a sum of single blocks, each named once; what a world holds; what an allocation, a store and an append do to it. No program is named. -/
import Derived.WalkKit
import Derived.Deep.QuietTactic
import Derived.BigQuiet
namespace Go.Proofs.Ythifeaigdobonaa
open Go.RowKit

/-- Blocks and what they hold: 'dom' counts how often a block is named, 'val' says what stands in it. -/
structure Hp where
  dom : Nat → Nat
  val : Nat → Obj → Prop
  ok : ∀ b o, val b o → 0 < dom b

theorem Hp.eq_of {a b : Hp} (h1 : a.dom = b.dom) (h2 : a.val = b.val) : a = b := by
  cases a; cases b; cases h1; cases h2; rfl

instance : Add Hp := ⟨fun a b => ⟨fun x => a.dom x + b.dom x, fun x o => a.val x o ∨ b.val x o, fun x o h => by
  rcases h with h | h
  · have := a.ok x o h; omega
  · have := b.ok x o h; omega⟩⟩

def emp : Hp := ⟨fun _ => 0, fun _ _ => False, fun _ _ h => h.elim⟩

def pt (b : Nat) (o : Obj) : Hp := ⟨fun x => if x = b then 1 else 0, fun x y => x = b ∧ y = o, fun x y h => by simp [h.1]⟩

theorem Hp.dom_add (a b : Hp) (x : Nat) : (a + b).dom x = a.dom x + b.dom x := rfl
theorem Hp.val_add (a b : Hp) (x : Nat) (o : Obj) : (a + b).val x o = (a.val x o ∨ b.val x o) := rfl

theorem Hp.add_assoc (a b c : Hp) : a + b + c = a + (b + c) :=
  Hp.eq_of (funext fun x => by simp only [Hp.dom_add]; omega) (funext fun x => funext fun o => by simp only [Hp.val_add, or_assoc])
theorem Hp.add_comm (a b : Hp) : a + b = b + a :=
  Hp.eq_of (funext fun x => by simp only [Hp.dom_add]; omega) (funext fun x => funext fun o => by simp only [Hp.val_add]; exact propext or_comm)
theorem Hp.add_emp (a : Hp) : a + emp = a :=
  Hp.eq_of (funext fun x => by simp [Hp.dom_add, emp]) (funext fun x => funext fun o => by simp [Hp.val_add, emp])
theorem Hp.emp_add (a : Hp) : emp + a = a := by rw [Hp.add_comm, Hp.add_emp]

instance : Std.Associative (α := Hp) (· + ·) := ⟨Hp.add_assoc⟩
instance : Std.Commutative (α := Hp) (· + ·) := ⟨Hp.add_comm⟩

/-- The world w, come out of the world W, holds what S says, each block once; what lay in W lies as it lay, apart from S. -/
structure Holds (W w : World) (S : Hp) : Prop where
  os : w.os = W.os
  tape : w.tape = W.tape
  output : w.output = W.output
  size : W.heap.size ≤ w.heap.size
  once : ∀ b, S.dom b ≤ 1
  low : ∀ b, 0 < S.dom b → b < w.heap.size
  get : ∀ b o, S.val b o → w.heap[b]? = some o
  up : ∀ b, 0 < S.dom b → W.heap.size ≤ b
  old : ∀ k, k < W.heap.size → w.heap[k]? = W.heap[k]?

theorem Holds.of_eq {W w : World} {S T : Hp} (h : Holds W w S) (e : S = T) : Holds W w T := e ▸ h

theorem Holds.left {W w : World} {S T : Hp} (h : Holds W w (S + T)) : Holds W w S :=
  ⟨h.os, h.tape, h.output, h.size, fun b => by have := h.once b; simp only [Hp.dom_add] at this; omega,
    fun b hb => h.low b (by simp only [Hp.dom_add]; omega), fun b o hv => h.get b o (by rw [Hp.val_add]; exact .inl hv), fun b hb => h.up b (by simp only [Hp.dom_add]; omega), h.old⟩
theorem Holds.right {W w : World} {S T : Hp} (h : Holds W w (S + T)) : Holds W w T := Holds.left (h.of_eq (Hp.add_comm _ _))

theorem Holds.drew {W w : World} {S : Hp} (h : Holds W w S) : Holds W w.drew S := ⟨h.os, h.tape, h.output, h.size, h.once, h.low, h.get, h.up, h.old⟩

theorem Holds.drewN {W w : World} {S : Hp} (h : Holds W w S) (n : Nat) : Holds W (w.drewN n) S := ⟨h.os, h.tape, h.output, h.size, h.once, h.low, h.get, h.up, h.old⟩

theorem Holds.alloc {W w : World} {S : Hp} (h : Holds W w S) (o : Obj) : Holds W (w.alloc o) (pt w.heap.size o + S) := by
  have h0 : S.dom w.heap.size = 0 := by
    rcases Nat.eq_zero_or_pos (S.dom w.heap.size) with e | e
    · exact e
    · exact absurd (h.low _ e) (Nat.lt_irrefl _)
  refine ⟨h.os, h.tape, h.output, by rw [World.size_alloc]; have := h.size; omega, fun b => ?_, fun b hb => ?_, fun b o' hv => ?_, fun b hb => ?_, fun k hk => ?_⟩
  · simp only [Hp.dom_add, pt]
    have := h.once b
    split
    · rename_i e; subst e; omega
    · omega
  · rw [World.size_alloc]
    simp only [Hp.dom_add, pt] at hb
    split at hb
    · omega
    · have := h.low b (by omega); omega
  · rw [Hp.val_add] at hv
    rcases hv with ⟨rfl, rfl⟩ | hv
    · exact heap_alloc_new w o'
    · have hl := h.low b (S.ok b o' hv)
      rw [show (w.alloc o).heap[b]? = w.heap[b]? from Below.heap_alloc w o b hl]
      exact h.get b o' hv
  · simp only [Hp.dom_add, pt] at hb
    split at hb
    · rename_i e; rw [e]; exact h.size
    · exact h.up b (by omega)
  · rw [show (w.alloc o).heap[k]? = w.heap[k]? from Below.heap_alloc w o k (Nat.lt_of_lt_of_le hk h.size)]
    exact h.old k hk

theorem Holds.new {W w : World} {S : Hp} (h : Holds W w S) (n : Nat) (hn : n = w.heap.size) (o : Obj) : Holds W (w.alloc o) (pt n o + S) := by subst hn; exact h.alloc o

theorem pt_dom_self (b : Nat) (o : Obj) : (pt b o).dom b = 1 := by simp [pt]
theorem Holds.ne_of_dom {W w : World} {S : Hp} {b : Nat} {o : Obj} (h : Holds W w (pt b o + S)) {c : Nat} (hc : 0 < S.dom c) : c ≠ b := by
  rintro rfl
  have := h.once c
  simp only [Hp.dom_add, pt_dom_self] at this
  omega
theorem Holds.ne {W w : World} {S : Hp} {b c : Nat} {o p : Obj} (h : Holds W w (pt b o + (pt c p + S))) : b ≠ c := by
  have := h.ne_of_dom (c := c) (by simp only [Hp.dom_add, pt_dom_self]; omega)
  exact this.symm
theorem Holds.at {W w : World} {S : Hp} {b : Nat} {o : Obj} (h : Holds W w (pt b o + S)) : w.heap[b]? = some o := h.get b o (by rw [Hp.val_add]; exact .inl ⟨rfl, rfl⟩)
theorem Holds.lt {W w : World} {S : Hp} {b : Nat} {o : Obj} (h : Holds W w (pt b o + S)) : b < w.heap.size := h.low b (by simp only [Hp.dom_add, pt_dom_self]; omega)
theorem Holds.cell {W w : World} {S : Hp} {b : Nat} {cs : Array Value} {t : TypeId} {fr : Nat × Nat} (h : Holds W w (pt b (.cells cs t fr) + S)) (i : Nat) : w.cell? ⟨b, i, none⟩ = cs[i]? := by
  simp [World.cell?, h.at]
theorem Holds.free {W w : World} {S : Hp} {b : Nat} {cs : Array Value} {t : TypeId} (h : Holds W w (pt b (.cells cs t (0, 0)) + S)) (i : Nat) : w.frozen? ⟨b, i, none⟩ = false := by
  simp [World.frozen?, h.at]

/-- One block turned, all else as it was. -/
theorem Holds.turn {W w w' : World} {S : Hp} {b : Nat} {o o' : Obj} (h : Holds W w (pt b o + S)) (hos : w'.os = w.os) (htape : w'.tape = w.tape) (hout : w'.output = w.output)
    (hsize : w.heap.size ≤ w'.heap.size) (hb : w'.heap[b]? = some o') (hother : ∀ k, k < w.heap.size → k ≠ b → w'.heap[k]? = w.heap[k]?) : Holds W w' (pt b o' + S) := by
  refine ⟨hos.trans h.os, htape.trans h.tape, hout.trans h.output, Nat.le_trans h.size hsize, fun c => ?_, fun c hc => ?_, fun c p hv => ?_, fun c hc => h.up c hc, fun k hk => ?_⟩
  · exact h.once c
  · exact Nat.lt_of_lt_of_le (h.low c hc) hsize
  · rw [Hp.val_add] at hv
    rcases hv with ⟨rfl, rfl⟩ | hv
    · exact hb
    · have hd := S.ok c p hv
      rw [hother c (h.right.low c hd) (h.ne_of_dom hd)]
      exact h.right.get c p hv
  · have hb := h.up b (by simp only [Hp.dom_add, pt_dom_self]; omega)
    rw [hother k (Nat.lt_of_lt_of_le hk h.size) (by omega)]
    exact h.old k hk

theorem Holds.set {W w : World} {S : Hp} {b : Nat} {cs : Array Value} {t : TypeId} {fr : Nat × Nat} (h : Holds W w (pt b (.cells cs t fr) + S)) (i : Nat) (v : Value) :
    Holds W (w.setCell ⟨b, i, none⟩ v) (pt b (.cells (cs.setIfInBounds i v) t fr) + S) := by
  refine h.turn rfl rfl rfl (by rw [World.size_setCell]; exact Nat.le_refl _) ?_ (fun k _ hk => Below.heap_setCell _ _ _ _ hk)
  have hlt := h.lt
  have hat := h.at
  rw [Array.getElem?_eq_getElem hlt] at hat
  injection hat with hat
  show (w.heap.modify b _)[b]? = _
  rw [Array.getElem?_eq_getElem (by simpa using hlt), Array.getElem_modify_self, hat]
  rfl

/-- A slice that owns its row: v has n elements of 'size' cells of type e; they are the cells xs. -/
def RowAt (e : TypeId) (size : Nat) (v : Value) (n : Nat) (xs : List Value) (S : Hp) : Prop :=
  xs.length = n * size ∧
  ((v = .slice none 0 0 ∧ n = 0 ∧ S = emp) ∨
    ∃ g cap rest, v = .slice (some ⟨g, 0, none⟩) n cap ∧ n ≤ cap ∧ cap ≤ maxLen ∧ (xs ++ rest).length = cap * size ∧ S = pt g (.cells (xs ++ rest).toArray e (0, 0)))

theorem RowAt.nil (e : TypeId) (size : Nat) : RowAt e size (.slice none 0 0) 0 [] emp := ⟨by simp, .inl ⟨rfl, rfl, rfl⟩⟩

theorem RowAt.mk (e : TypeId) (size g n cap : Nat) (xs rest : List Value) (h1 : xs.length = n * size) (h2 : n ≤ cap) (h3 : cap ≤ maxLen) (h4 : (xs ++ rest).length = cap * size) :
    RowAt e size (.slice (some ⟨g, 0, none⟩) n cap) n xs (pt g (.cells (xs ++ rest).toArray e (0, 0))) := ⟨h1, .inr ⟨g, cap, rest, rfl, h2, h3, h4, rfl⟩⟩

/-- The row of a slice that has an element: its block. -/
theorem RowAt.some {e : TypeId} {size : Nat} {v : Value} {n : Nat} {xs : List Value} {S : Hp} (h : RowAt e size v n xs S) (hn : 0 < n) :
    ∃ g cap rest, v = .slice (some ⟨g, 0, none⟩) n cap ∧ n ≤ cap ∧ cap ≤ maxLen ∧ (xs ++ rest).length = cap * size ∧ S = pt g (.cells (xs ++ rest).toArray e (0, 0)) := by
  rcases h.2 with ⟨_, h0, _⟩ | h'
  · omega
  · exact h'

theorem Holds.setRow {W w : World} {S : Hp} {g : Nat} {cs cs' : Array Value} {t : TypeId} (h : Holds W w (pt g (.cells cs t (0, 0)) + S)) :
    Holds W (w.setRow g cs') (pt g (.cells cs' t (0, 0)) + S) := by
  refine h.turn rfl rfl rfl (by rw [size_setRow]; exact Nat.le_refl _) ?_ (fun k _ hk => ?_)
  · have hlt := h.lt
    have hat := h.at
    rw [Array.getElem?_eq_getElem hlt] at hat
    injection hat with hat
    show (w.heap.modify g _)[g]? = _
    rw [Array.getElem?_eq_getElem (by simpa using hlt), Array.getElem_modify_self, hat]
  · show (w.heap.modify g _)[k]? = _
    rw [Array.getElem?_modify, if_neg (fun e => hk e.symm)]

end Go.Proofs.Ythifeaigdobonaa
