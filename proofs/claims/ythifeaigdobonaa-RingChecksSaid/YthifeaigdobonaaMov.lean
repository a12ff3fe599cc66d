/- A machine's Move, case by case, whatever the kit. -/
import Derived.Test.YthifeaigdobonaaMch
import Derived.Test.YthifeaigdobonaaMap
namespace Go.Proofs.Ythifeaigdobonaa
open Go.RowKit

/-- What the walks read of a machine. -/
theorem MachAt.cells {W w : World} {bM bm : Nat} {kit : Value} {words : List Int} {log : List Acc} {moves : Int} {calls : List ACall} {seats : List ASeat} {S F : Hp}
    (hS : MachAt bM bm kit words log moves calls seats S) (h : Holds W w (S + F)) (hn : 0 < seats.length) :
    ∃ gs cap cv Sc, RowAt 66 9 cv calls.length (rows encCall calls) Sc ∧ w.cell? ⟨bM, 7, none⟩ = some kit ∧ w.cell? ⟨bM, 8, none⟩ = some (.slice (some ⟨gs, 0, none⟩) seats.length cap) ∧ w.cell? ⟨bM, 9, none⟩ = some (.int .i64 moves) ∧ w.frozen? ⟨bM, 9, none⟩ = false ∧
      w.cell? ⟨bM, 10, none⟩ = some cv ∧ w.frozen? ⟨bM, 10, none⟩ = false ∧ bM < w.heap.size ∧ gs < w.heap.size ∧ gs ≠ bM ∧ (∀ i s, seats[i]? = some s → ∀ j, j < 5 → w.cell? ⟨gs, i * 5 + j, none⟩ = (encSeat s)[j]?) ∧ (∀ i, w.frozen? ⟨gs, i, none⟩ = false) := by
  obtain ⟨th, nw, mv, us, cv, sv, Sc, Ss, Sm, hcv, hsv, hm, rfl⟩ := hS
  obtain ⟨gs, cap, rests, rfl, rfl, hs'⟩ := row_open hsv hn
  have h1 := h.of_eq (show _ = pt bM (machO bm th nw nilp nilp us (.slice none 0 0) kit (.slice (some ⟨gs, 0, none⟩) seats.length cap) moves cv) + (pt gs (.cells (arr encSeat seats rests) 137 (0, 0)) + (Sc + Sm + F)) from by ac_rfl)
  have h2 := h.of_eq (show _ = pt gs (.cells (arr encSeat seats rests) 137 (0, 0)) + (pt bM (machO bm th nw nilp nilp us (.slice none 0 0) kit (.slice (some ⟨gs, 0, none⟩) seats.length cap) moves cv) + (Sc + Sm + F)) from by ac_rfl)
  have hne := h2.ne
  unfold machO at h1
  refine ⟨gs, cap, cv, Sc, hcv, by rw [h1.cell]; rfl, by rw [h1.cell]; rfl, by rw [h1.cell]; rfl, h1.free 9, by rw [h1.cell]; rfl, h1.free 10, h1.lt, h2.lt, hne, fun i s hi j hj => ?_, fun i => h2.free i⟩
  rw [h2.cell]
  exact arr_get encSeat_len hi hj

theorem MachAt.tick {W w : World} {bM bm : Nat} {kit : Value} {words : List Int} {log : List Acc} {moves : Int} {calls : List ACall} {seats : List ASeat} {S F : Hp}
    (hS : MachAt bM bm kit words log moves calls seats S) (h : Holds W w (S + F)) (m : Int) : ∃ S', MachAt bM bm kit words log m calls seats S' ∧ Holds W (w.setCell ⟨bM, 9, none⟩ (.int .i64 m)) (S' + F) := by
  obtain ⟨th, nw, mv, us, cv, sv, Sc, Ss, Sm, hcv, hsv, hm, rfl⟩ := hS
  have h1 := h.of_eq (show _ = pt bM (machO bm th nw nilp nilp us (.slice none 0 0) kit sv moves cv) + (Sc + (Ss + Sm) + F) from by ac_rfl)
  unfold machO at h1
  exact ⟨_, ⟨th, nw, mv, us, cv, sv, Sc, Ss, Sm, hcv, hsv, hm, rfl⟩, (h1.set 9 (.int .i64 m)).of_eq (by unfold machO; simp only [List.setIfInBounds_toArray]; ac_rfl)⟩

section
variable (W w : World) (bM bm : Nat) (kit : Value) (words : List Int) (log : List Acc) (moves : Int) (calls : List ACall) (seats : List ASeat) (S G F : Hp) (th op arg data : Int)

def moveArgs (bM : Nat) (th op arg data : Int) : Array Value := #[.pointer (some ⟨bM, 0, none⟩), .agg #[.int .i64 th, .int .i64 op, .int .i64 arg, .int .i64 data]]

/-- No more moves. -/
theorem move_over (hn : 0 < seats.length) (hn2 : seats.length ≤ 1000) (hm : 65536 ≤ moves) (hS : MachAt bM bm kit words log moves calls seats S) (h : Holds W w (S + (G + F))) :
    Calls Try.prog 19 (moveArgs bM th op arg data) w (ListPost W bM bm kit words log moves calls seats G F (.bool false)) := by
  obtain ⟨gs, cap, cv, Sc, hcv, c7, c8, c9, f9, c10, f10, l1, l2, l3, cs, fs⟩ := hS.cells h hn
  have q0 : (((seats.length : Nat) : Int) == 0) = false := by rw [beq_eq_false_iff_ne]; omega
  clear cs fs c7 c10 f9 f10
  unfold moveArgs
  go_enter Try.func19, Try.ntmps19
  go_wp2
  go_ret
  exact ⟨rfl, S, hS, (h.alloc _).right⟩

/-- No such thread. -/
theorem move_none (hn : 0 < seats.length) (hn2 : seats.length ≤ 1000) (hm : moves < 65536) (hm0 : 0 ≤ moves) (ht : th < 0 ∨ (seats.length : Int) ≤ th) (hS : MachAt bM bm kit words log moves calls seats S) (h : Holds W w (S + (G + F))) :
    Calls Try.prog 19 (moveArgs bM th op arg data) w (ListPost W bM bm kit words log (moves + 1) calls seats G F (.bool false)) := by
  obtain ⟨gs, cap, cv, Sc, hcv, c7, c8, c9, f9, c10, f10, l1, l2, l3, cs, fs⟩ := hS.cells h hn
  have q0 : (((seats.length : Nat) : Int) == 0) = false := by rw [beq_eq_false_iff_ne]; omega
  obtain ⟨S', hS', h'⟩ := hS.tick h (moves + 1)
  clear cs fs c7 c10 f10
  unfold moveArgs
  by_cases h0 : th < 0
  · have d0 : decide (th < 0) = true := by simp [h0]
    clear ht
    go_enter Try.func19, Try.ntmps19
    go_wp2_with fail
    go_quiet (fail)
    go_wp2
    go_ret
    exact ⟨rfl, S', hS', ((h'.alloc _).right.drewN _)⟩
  · have d0 : decide (th < 0) = false := by simp [h0]
    have d1 : decide ((seats.length : Int) ≤ th) = true := by simp; omega
    clear ht h0
    go_enter Try.func19, Try.ntmps19
    go_wp2_with fail
    go_quiet (fail)
    go_wp2
    go_ret
    exact ⟨rfl, S', hS', ((h'.alloc _).right.drewN _)⟩

/-- A step of a thread without a call. -/
theorem move_idle (t : Nat) (s : ASeat) (hs : seats[t]? = some s) (htask : s.task = .nilIface) (hn : 0 < seats.length) (hn2 : seats.length ≤ 1000) (hm : moves < 65536) (hm0 : 0 ≤ moves) (hS : MachAt bM bm kit words log moves calls seats S) (h : Holds W w (S + (G + F))) :
    Calls Try.prog 19 (moveArgs bM t 0 arg data) w (ListPost W bM bm kit words log (moves + 1) calls seats G F (.bool false)) := by
  obtain ⟨gs, cap, cv, Sc, hcv, c7, c8, c9, f9, c10, f10, l1, l2, l3, cs, fs⟩ := hS.cells h hn
  have htl : t < seats.length := (List.getElem?_eq_some_iff.1 hs).1
  have q0 : (((seats.length : Nat) : Int) == 0) = false := by rw [beq_eq_false_iff_ne]; omega
  have d0 : decide ((t : Int) < 0) = false := by simp
  have d1 : decide ((seats.length : Int) ≤ (t : Int)) = false := by simp; omega
  have e0 : w.cell? ⟨gs, t * 5, none⟩ = some .nilIface := by have := cs t s hs 0 (by decide); rw [show t * 5 + 0 = t * 5 from rfl] at this; rw [this, ← htask]; rfl
  obtain ⟨S', hS', h'⟩ := hS.tick h (moves + 1)
  clear cs fs f10
  unfold moveArgs
  go_enter Try.func19, Try.ntmps19
  go_wp2_with fail
  go_quiet (fail)
  go_wp2_with fail
  go_region
  go_wp2_with fail
  go_ret
  exact ⟨rfl, S', hS', ((h'.alloc _).right.drewN _)⟩

/-- A step of a thread that has a call. -/
theorem move_step (t : Nat) (s : ASeat) (c : ACall) (T : TypeId) (bt last : Nat) (hs : seats[t]? = some s) (hc : calls[last]? = some c) (htask : s.task = .iface T (.pointer (some ⟨bt, 0, none⟩))) (hlast : s.last = last)
    (hn : 0 < seats.length) (hn2 : seats.length ≤ 1000) (hnc : calls.length ≤ 100000) (hm : moves < 65536) (hm0 : 0 ≤ moves)
    (G1 G2 : Hp) (words' : List Int) (log' : List Acc) (p : Option Int) (a : Option (Int × Int)) (over : Bool)
    (hT : TaskDoes W T bt t moves words log G G1 words' log' G2 p a over s.ready)
    (hS : MachAt bM bm kit words log moves calls seats S) (h : Holds W w (S + (G + F))) :
    Calls Try.prog 19 (moveArgs bM t 0 arg data) w
      (ListPost W bM bm kit words' log' (moves + 1) (calls.set last (callAfter over moves (anOf a s) (ptOf p c))) (seats.set t (seatAfter over (anOf a s))) G2 F (.bool true)) := by
  have HT := Lib.hid hT
  clear hT
  obtain ⟨gs, cap, cv, Sc, hcv, c7, c8, c9, f9, c10, f10, l1, l2, l3, cs, fs⟩ := hS.cells h hn
  have htl : t < seats.length := (List.getElem?_eq_some_iff.1 hs).1
  have q0 : (((seats.length : Nat) : Int) == 0) = false := by rw [beq_eq_false_iff_ne]; omega
  have d0 : decide ((t : Int) < 0) = false := by simp
  have d1 : decide ((seats.length : Int) ≤ (t : Int)) = false := by simp; omega
  have e0 : w.cell? ⟨gs, t * 5, none⟩ = some (.iface T (.pointer (some ⟨bt, 0, none⟩))) := by have := cs t s hs 0 (by decide); rw [show t * 5 + 0 = t * 5 from rfl] at this; rw [this, ← htask]; rfl
  obtain ⟨S', hS', h'⟩ := hS.tick h (moves + 1)
  clear cs fs f10
  unfold moveArgs
  go_enter Try.func19, Try.ntmps19
  go_wp2_with fail
  go_quiet (fail)
  go_wp2_with fail
  go_region
  have hh := (h'.alloc (.cells #[.int .i64 (t : Int), .int .i64 0, .int .i64 arg, .int .i64 data] 27)).right
  have HH := Lib.hid hh
  clear hh h' h
  go_wp2_with fail
  refine (step_list W _ bM bm kit words log (moves + 1) calls seats S' G F t last moves s c T bt hs hc htask hlast hn2 hnc G1 G2 words' log' p a over HT.out hS' (HH.out.drewN _)).mono ?_
  rintro e w3 ⟨rfl, S3, hS3, h3⟩
  go_wp2_with fail
  go_ret
  exact ⟨rfl, S3, hS3, h3⟩

/-- Another call while one is on its way. -/
theorem move_busy (t : Nat) (s : ASeat) (T : TypeId) (bt : Nat) (hs : seats[t]? = some s) (htask : s.task = .iface T (.pointer (some ⟨bt, 0, none⟩))) (hop : op ≠ 0) (hn : 0 < seats.length) (hn2 : seats.length ≤ 1000) (hm : moves < 65536) (hm0 : 0 ≤ moves) (hS : MachAt bM bm kit words log moves calls seats S) (h : Holds W w (S + (G + F))) :
    Calls Try.prog 19 (moveArgs bM t op arg data) w (ListPost W bM bm kit words log (moves + 1) calls seats G F (.bool false)) := by
  have ho : (op == 0) = false := by rw [beq_eq_false_iff_ne]; exact hop
  clear hop
  obtain ⟨gs, cap, cv, Sc, hcv, c7, c8, c9, f9, c10, f10, l1, l2, l3, cs, fs⟩ := hS.cells h hn
  have htl : t < seats.length := (List.getElem?_eq_some_iff.1 hs).1
  have q0 : (((seats.length : Nat) : Int) == 0) = false := by rw [beq_eq_false_iff_ne]; omega
  have d0 : decide ((t : Int) < 0) = false := by simp
  have d1 : decide ((seats.length : Int) ≤ (t : Int)) = false := by simp; omega
  have e0 : w.cell? ⟨gs, t * 5, none⟩ = some (.iface T (.pointer (some ⟨bt, 0, none⟩))) := by have := cs t s hs 0 (by decide); rw [show t * 5 + 0 = t * 5 from rfl] at this; rw [this, ← htask]; rfl
  obtain ⟨S', hS', h'⟩ := hS.tick h (moves + 1)
  clear cs fs f10
  unfold moveArgs
  go_enter Try.func19, Try.ntmps19
  go_wp2_with fail
  go_quiet (fail)
  go_wp2_with fail
  go_region
  go_wp2_with fail
  go_ret
  exact ⟨rfl, S', hS', ((h'.alloc _).right.drewN _)⟩

end
end Go.Proofs.Ythifeaigdobonaa
