/- The deque of chapter 21's examples does its work: 'awake' returns true. -/
import Derived.Test.YthifeaigdobonaaPly
namespace Go.Proofs.Ythifeaigdobonaa
open Go.RowKit

def awMvs : List DM.Mv := [⟨0, 90, 5, 0⟩, ⟨0, 0, 0, 0⟩, ⟨0, 0, 0, 0⟩, ⟨0, 0, 0, 0⟩, ⟨0, 0, 0, 0⟩, ⟨0, 90, 6, 0⟩, ⟨0, 0, 0, 0⟩, ⟨0, 0, 0, 0⟩, ⟨0, 0, 0, 0⟩, ⟨0, 0, 0, 0⟩, ⟨1, 92, 0, 0⟩, ⟨1, 0, 0, 0⟩, ⟨1, 0, 0, 0⟩, ⟨1, 0, 0, 0⟩, ⟨1, 0, 0, 0⟩, ⟨0, 91, 0, 0⟩,
  ⟨0, 0, 0, 0⟩, ⟨0, 0, 0, 0⟩, ⟨0, 0, 0, 0⟩, ⟨0, 0, 0, 0⟩, ⟨0, 0, 0, 0⟩, ⟨0, 0, 0, 0⟩]
def awDM : DM := (DM.init 2 2).runs awMvs
theorem aw_calls : awDM.calls.map (fun c => (c.ak, c.av, c.point)) = [(1, 0, 4), (1, 0, 9), (2, 5, 14), (2, 6, 17)] := by decide +kernel
theorem aw_ok : ∀ v ∈ awMvs, (-100 ≤ v.thread ∧ v.thread ≤ 100) ∧ (-100 ≤ v.op ∧ v.op ≤ 100) ∧ (-100 ≤ v.arg ∧ v.arg ≤ 100) ∧ (-100 ≤ v.data ∧ v.data ≤ 100) := by decide +kernel

/-- A script that lies in a block of its own. -/
theorem MovesIn.mk {w : World} {g : Nat} {mvs : List DM.Mv} {t : TypeId} {fr : Nat × Nat} (hok : ∀ v ∈ mvs, MvOK v) (hl : mvs.length ≤ maxLen) (h : w.heap[g]? = some (.cells (rows encMv mvs).toArray t fr)) : MovesIn w (some ⟨g, 0, none⟩) mvs.length mvs := by
  refine ⟨rfl, hl, hok, .inr ⟨g, 0, rfl, (Array.getElem?_eq_some_iff.1 h).1, fun k v hk j hj => ?_⟩⟩
  rw [Nat.zero_add]
  have := rows_get (enc := encMv) (sz := 4) (fun _ => rfl) mvs k v hk j hj
  rw [← this]
  simp [World.cell?, h]

theorem aw_cells (i : Nat) (p : Int × Int × Int) (h : (awDM.calls.map (fun c => (c.ak, c.av, c.point)))[i]? = some p) : ∃ c, awDM.calls[i]? = some c ∧ c.ak = p.1 ∧ c.av = p.2.1 ∧ c.point = p.2.2 := by
  rw [List.getElem?_map] at h
  cases hc : awDM.calls[i]? with
  | none => rw [hc] at h; cases h
  | some c => rw [hc] at h; injection h with h; subst h; exact ⟨c, rfl, rfl, rfl, rfl⟩

theorem num_at (z : Int) (w : World) : Calls Try.prog 14 #[.int .i64 z] w fun e w' => w = w' ∧ e = .returned (.int .i64 z) := by
  go_enter Try.func14, Try.ntmps14
  go_wp2
  go_ret
  exact ⟨rfl, rfl⟩

set_option maxRecDepth 100000 in
theorem awake_yes (w : World) : Calls Try.prog 25 #[] w fun e w' => e = .returned (.bool true) ∧ Below w.heap.size w w' := by
  have hm : MovesIn (w.alloc (.cells (rows encMv awMvs).toArray 27 (0, 0))) (some ⟨w.heap.size, 0, none⟩) 22 awMvs := MovesIn.mk (fun v hv => by
    obtain ⟨⟨a1, a2⟩, ⟨a3, a4⟩, ⟨a5, a6⟩, ⟨a7, a8⟩⟩ := aw_ok v hv
    exact ⟨I64.small (by omega) (by omega), I64.small (by omega) (by omega), I64.small (by omega) (by omega), I64.small (by omega) (by omega)⟩) (by decide) (World.alloc_heap_new _ _)
  have hp := play_ok _ 2 2 (by decide) _ 22 22 awMvs hm (by decide)
  have HP := Lib.hid hp
  clear hp hm
  go_enter Try.func25, Try.ntmps25
  go_wp2_with fail
  refine HP.out.mono ?_
  rintro e w' ⟨v, S', rfl, hR, h'⟩
  clear HP
  obtain ⟨cv, tv, wv, Sc, St, Sw, rfl, q1, q2, q3, rfl⟩ := hR
  obtain ⟨ta, tc, rfl⟩ := q2.form
  obtain ⟨wa, wc, rfl⟩ := q3.form
  have hcl : awDM.calls.length = 4 := by have := congrArg List.length aw_calls; simpa using this
  obtain ⟨g, cap, rest, rfl, rfl, _⟩ := row_open (l := awDM.calls) q1 (by omega)
  obtain ⟨x, hx, x1, x2, _⟩ := aw_cells 2 _ (by rw [aw_calls]; rfl)
  obtain ⟨y, hy, y1, y2, y3⟩ := aw_cells 3 _ (by rw [aw_calls]; rfl)
  have h2 := h'.of_eq (Hp.add_assoc _ _ _ |>.symm |>.trans (Hp.add_assoc _ _ _))
  have c25 : w'.cell? ⟨g, 25, none⟩ = some (.int .i64 2) := by rw [h2.cell, arr_get encCall_len hx (i := 2) (j := 7) (by decide)]; simp [encCall, x1]
  have c26 : w'.cell? ⟨g, 26, none⟩ = some (.int .i64 5) := by rw [h2.cell, arr_get encCall_len hx (i := 2) (j := 8) (by decide)]; simp [encCall, x2]
  have c34 : w'.cell? ⟨g, 34, none⟩ = some (.int .i64 2) := by rw [h2.cell, arr_get encCall_len hy (i := 3) (j := 7) (by decide)]; simp [encCall, y1]
  have c35 : w'.cell? ⟨g, 35, none⟩ = some (.int .i64 6) := by rw [h2.cell, arr_get encCall_len hy (i := 3) (j := 8) (by decide)]; simp [encCall, y2]
  have c33 : w'.cell? ⟨g, 33, none⟩ = some (.int .i64 17) := by rw [h2.cell, arr_get encCall_len hy (i := 3) (j := 6) (by decide)]; simp [encCall, y3]
  rw [hcl]
  have HB := Lib.hid (h'.below)
  have hlt := h2.lt
  clear h' h2 q1 q2 q3 hx hy x1 x2 y1 y2 y3 hcl
  go_wp2_with (go_at_call 14; refine (num_at _ _).mono ?_; rintro e w' ⟨rfl, rfl⟩)
  go_ret
  exact ⟨rfl, (((Below.refl _ _).alloc (Nat.le_refl _) _).trans (HB.out.mono (by simp))).alloc (by have := HB.out.size; simp at this; omega) _⟩

end Go.Proofs.Ythifeaigdobonaa
