/- A machine's Move that begins a call. -/
import Derived.Test.YthifeaigdobonaaMov
import Derived.Test.YthifeaigdobonaaCln
import Derived.Test.YthifeaigdobonaaOrd
namespace Go.Proofs.Ythifeaigdobonaa
open Go.RowKit

theorem zeroMaker (w : World) : (zeroValue 139).run Try.prog w = .ok .nilFunc w := by kernel_rfl

theorem nilFunc_yes (w : World) : (binOp .eql 139 .nilFunc .nilFunc).run Try.prog w = .ok (.bool true) w := by kernel_rfl
theorem nilFunc_no (f : Fn) (a b : Array Value) (w : World) : (binOp .eql 139 (.func f a b) .nilFunc).run Try.prog w = .ok (.bool false) w := by kernel_rfl

/-- The seat that a call takes. -/
def seatNew (tv : Value) (n : Nat) : ASeat := { task := tv, ready := false, last := n, ak := 1, av := 0 }

theorem MachAt.same {W w w2 : World} {bM bm : Nat} {kit : Value} {words : List Int} {log : List Acc} {moves : Int} {calls : List ACall} {seats : List ASeat} {S F F2 : Hp}
    (hS : MachAt bM bm kit words log moves calls seats S) (h : Holds W w (S + F)) (h2 : Holds W w2 (S + F2)) (i : Nat) : w2.cell? ⟨bM, i, none⟩ = w.cell? ⟨bM, i, none⟩ := by
  obtain ⟨th, nw, mv, us, cv, sv, Sc, Ss, Sm, hcv, hsv, hm, rfl⟩ := hS
  have e1 := (h.of_eq (Hp.add_assoc _ _ _)).cell i
  have e2 := (h2.of_eq (Hp.add_assoc _ _ _)).cell i
  rw [e1, e2]

theorem RowAt.form {e : TypeId} {size : Nat} {v : Value} {n : Nat} {xs : List Value} {S : Hp} (h : RowAt e size v n xs S) : ∃ a cap, v = .slice a n cap := by
  rcases h.2 with ⟨rfl, rfl, _⟩ | ⟨g, cap, rest, rfl, _⟩
  · exact ⟨none, 0, rfl⟩
  · exact ⟨_, cap, rfl⟩

theorem MachAt.seat {W w : World} {bM bm : Nat} {kit : Value} {words : List Int} {log : List Acc} {moves : Int} {calls : List ACall} {seats : List ASeat} {S F : Hp} {t : Nat} {s : ASeat} {gs cap : Nat}
    (hS : MachAt bM bm kit words log moves calls seats S) (h : Holds W w (S + F)) (hs : seats[t]? = some s) (c8 : w.cell? ⟨bM, 8, none⟩ = some (.slice (some ⟨gs, 0, none⟩) seats.length cap)) (tv : Value) (n : Nat) :
    ∃ S', MachAt bM bm kit words log moves calls (seats.set t (seatNew tv n)) S' ∧
      Holds W (((((w.setCell ⟨gs, t * 5, none⟩ tv).setCell ⟨gs, t * 5 + 1, none⟩ (.bool false)).setCell ⟨gs, t * 5 + 2, none⟩ (.int .i64 n)).setCell ⟨gs, t * 5 + 3, none⟩ (.int .i64 1)).setCell ⟨gs, t * 5 + 4, none⟩ (.int .i64 0)) (S' + F) := by
  obtain ⟨th, nw, mv, us, cv, sv, Sc, Ss, Sm, hcv, hsv, hm, rfl⟩ := hS
  have htl : t < seats.length := (List.getElem?_eq_some_iff.1 hs).1
  obtain ⟨gs1, cap1, rests, rfl, rfl, hs'⟩ := row_open hsv (by omega)
  have e8 : w.cell? ⟨bM, 8, none⟩ = some (.slice (some ⟨gs1, 0, none⟩) seats.length cap1) := by
    have h1 := h.of_eq (Hp.add_assoc _ _ _)
    unfold machO at h1
    rw [h1.cell]; rfl
  obtain ⟨rfl, rfl⟩ : gs1 = gs ∧ cap1 = cap := by rw [c8] at e8; simp at e8; exact ⟨e8.1.symm, e8.2.symm⟩
  have h2 := h.of_eq (show _ = pt gs1 (.cells (arr encSeat seats rests) 137 (0, 0)) + (pt bM (machO bm th nw nilp nilp us (.slice none 0 0) kit (.slice (some ⟨gs1, 0, none⟩) seats.length cap1) moves cv) + (Sc + Sm) + F) from by ac_rfl)
  have h3 := ((((h2.set (t * 5) tv).set (t * 5 + 1) (.bool false)).set (t * 5 + 2) (.int .i64 n)).set (t * 5 + 3) (.int .i64 1)).set (t * 5 + 4) (.int .i64 0)
  have a0 := arr_set (rest := rests) (v := tv) (y := { s with task := tv }) encSeat_len hs (j := 0) (by decide) rfl
  have a1 := arr_set (rest := rests) (v := .bool false) (y := { s with task := tv, ready := false }) encSeat_len (get_set hs { s with task := tv }) (j := 1) (by decide) rfl
  have a2 := arr_set (rest := rests) (v := .int .i64 n) (y := { s with task := tv, ready := false, last := n }) encSeat_len (get_set hs { s with task := tv, ready := false }) (j := 2) (by decide) rfl
  have a3 := arr_set (rest := rests) (v := .int .i64 1) (y := { s with task := tv, ready := false, last := n, ak := 1 }) encSeat_len (get_set hs { s with task := tv, ready := false, last := n }) (j := 3) (by decide) rfl
  have a4 := arr_set (rest := rests) (v := .int .i64 0) (y := seatNew tv n) encSeat_len (get_set hs { s with task := tv, ready := false, last := n, ak := 1 }) (j := 4) (by decide) rfl
  rw [List.set_set] at a1 a2 a3 a4
  rw [Nat.add_zero] at a0
  rw [a0, a1, a2, a3, a4] at h3
  have hl : (seats.set t (seatNew tv n)).length = seats.length := by simp
  exact ⟨_, ⟨th, nw, mv, us, cv, _, Sc, _, Sm, hcv, hs' _ hl encSeat_len, hm, rfl⟩, h3.of_eq (by ac_rfl)⟩

section
variable (W w : World) (bM bm kb : Nat) (words : List Int) (log : List Acc) (moves : Int) (calls : List ACall) (seats : List ASeat) (S G F : Hp) (op arg data : Int)

def kitO (ents : List (Int × Value)) : Obj := .map (entsOf ents 0).toArray ents.length

set_option maxHeartbeats 1000000 in
set_option maxRecDepth 100000 in
/-- An op that the kit does not know. -/
theorem move_unknown (t : Nat) (s : ASeat) (ents : List (Int × Value)) (hs : seats[t]? = some s) (htask : s.task = .nilIface) (hop : op ≠ 0) (hlook : lookOf ents op .nilFunc = .nilFunc) (hn : 0 < seats.length) (hn2 : seats.length ≤ 1000) (hm : moves < 65536) (hm0 : 0 ≤ moves)
    (hS : MachAt bM bm (.map (some kb)) words log moves calls seats S) (h : Holds W w (S + (pt kb (kitO ents) + (G + F)))) :
    Calls Try.prog 19 (moveArgs bM t op arg data) w (ListPost W bM bm (.map (some kb)) words log (moves + 1) calls seats (pt kb (kitO ents) + G) F (.bool false)) := by
  have ho : (op == 0) = false := by rw [beq_eq_false_iff_ne]; exact hop
  clear hop
  obtain ⟨gs, cap, cv, Sc, hcv, c7, c8, c9, f9, c10, f10, l1, l2, l3, cs, fs⟩ := hS.cells h hn
  have htl : t < seats.length := (List.getElem?_eq_some_iff.1 hs).1
  have q0 : (((seats.length : Nat) : Int) == 0) = false := by rw [beq_eq_false_iff_ne]; omega
  have d0 : decide ((t : Int) < 0) = false := by simp
  have d1 : decide ((seats.length : Int) ≤ (t : Int)) = false := by simp; omega
  obtain ⟨S', hS', h'⟩ := hS.tick h (moves + 1)
  have h2 := h'.new w.heap.size (by simp) (.cells #[.int .i64 (t : Int), .int .i64 op, .int .i64 arg, .int .i64 data] 27 (0, 0))
  have k8' : ((w.setCell ⟨bM, 9, none⟩ (.int .i64 (moves + 1))).alloc (.cells #[.int .i64 (t : Int), .int .i64 op, .int .i64 arg, .int .i64 data] 27)).cell? ⟨bM, 8, none⟩ = some (.slice (some ⟨gs, 0, none⟩) seats.length cap) := by
    rw [World.cell?_alloc_lt _ _ _ (by simpa using l1), World.cell?_setCell_other _ _ _ _ (by simp)]; exact c8
  have K8 := Lib.hid k8'
  clear cs fs f10 h' k8'
  unfold moveArgs
  go_enter Try.func19, Try.ntmps19
  go_wp2_with fail
  go_quiet (fail)
  go_upto_region 7 with fail
  go_cut [6] (fun s6 wx => s6 = .pointer (some ⟨gs, t * 5, none⟩) ∧ wx.cell? ⟨bM, 8, none⟩ = some (.slice (some ⟨gs, 0, none⟩) seats.length cap) ∧ Holds W wx (pt w.heap.size (.cells #[.int .i64 (t : Int), .int .i64 op, .int .i64 arg, .int .i64 data] 27 (0, 0)) + (S' + (pt kb (kitO ents) + (G + F)))))
  case first =>
    go_region
    go_wp2_with fail
    go_meet
    exact ⟨rfl, K8.out, (h2.drewN _).drew⟩
  case rest =>
    obtain ⟨rfl, k8, k0⟩ := hcut
    clear h2 K8 c7 c8 c9 f9 c10 l1 l2 l3 h
    have k1 := k0.of_eq (show _ = S' + (pt w.heap.size (.cells #[.int .i64 (t : Int), .int .i64 op, .int .i64 arg, .int .i64 data] 27 (0, 0)) + (pt kb (kitO ents) + (G + F))) from by ac_rfl)
    obtain ⟨gs2, cap2, cv, Sc, hcv, c7, c8, c9, f9, c10, f10, l1, l2, l3, cs, fs⟩ := hS'.cells k1 hn
    obtain ⟨rfl, rfl⟩ : gs2 = gs ∧ cap2 = cap := by rw [k8] at c8; simp at c8; exact ⟨c8.1.symm, c8.2.symm⟩
    have e0 : wc.cell? ⟨gs2, t * 5, none⟩ = some .nilIface := by have := cs t s hs 0 (by decide); rw [show t * 5 + 0 = t * 5 from rfl] at this; rw [this, ← htask]; rfl
    have k2 := k0.of_eq (show _ = pt kb (kitO ents) + (S' + (pt w.heap.size (.cells #[.int .i64 (t : Int), .int .i64 op, .int .i64 arg, .int .i64 data] 27 (0, 0)) + (G + F))) from by ac_rfl)
    have m1 : wc.cell? ⟨w.heap.size, 1, none⟩ = some (.int .i64 op) := by rw [k0.cell]; rfl
    have hlk := run_lookup_ints (P := Try.prog) (w := wc.drew) 125 25 139 Try.underlying125 Try.underlying25 .nilFunc zeroMaker kb ents.length ents 0 k2.at op
    rw [hlook] at hlk
    have hnf := nilFunc_yes
    clear cs fs c9 f9 c10 f10 k8 k1 k2
    have K0 := Lib.hid k0
    clear k0
    go_wp2_with fail
    go_region
    go_wp2_with fail
    go_ret
    exact ⟨rfl, S', hS', (K0.out.right.drew).of_eq (by ac_rfl)⟩

set_option maxHeartbeats 1000000 in
set_option maxRecDepth 100000 in
/-- The maker refuses. -/
theorem move_refused (t : Nat) (s : ASeat) (ents : List (Int × Value)) (hs : seats[t]? = some s) (htask : s.task = .nilIface) (hop : op ≠ 0) (f : FuncId) (caps : Array Value) (hlook : lookOf ents op .nilFunc = .func (.func f) #[] caps) (hcf : ∀ args w, (callFunc f args).run Try.prog w = .ok (.enter f args) w)
    (hmk : ∀ (w : World) (S1 : Hp), Holds W w (S1 + (pt kb (kitO ents) + (G + F))) → Calls Try.prog f (#[.int .i64 (t : Int), .agg #[.int .i64 (t : Int), .int .i64 op, .int .i64 arg, .int .i64 data]] ++ caps) w fun e w' => e = .returned .nilIface ∧ Holds W w' (S1 + (pt kb (kitO ents) + (G + F)))) (hn : 0 < seats.length) (hn2 : seats.length ≤ 1000) (hm : moves < 65536) (hm0 : 0 ≤ moves)
    (hS : MachAt bM bm (.map (some kb)) words log moves calls seats S) (h : Holds W w (S + (pt kb (kitO ents) + (G + F)))) :
    Calls Try.prog 19 (moveArgs bM t op arg data) w (ListPost W bM bm (.map (some kb)) words log (moves + 1) calls seats (pt kb (kitO ents) + G) F (.bool false)) := by
  have ho : (op == 0) = false := by rw [beq_eq_false_iff_ne]; exact hop
  clear hop
  obtain ⟨gs, cap, cv, Sc, hcv, c7, c8, c9, f9, c10, f10, l1, l2, l3, cs, fs⟩ := hS.cells h hn
  have htl : t < seats.length := (List.getElem?_eq_some_iff.1 hs).1
  have q0 : (((seats.length : Nat) : Int) == 0) = false := by rw [beq_eq_false_iff_ne]; omega
  have d0 : decide ((t : Int) < 0) = false := by simp
  have d1 : decide ((seats.length : Int) ≤ (t : Int)) = false := by simp; omega
  obtain ⟨S', hS', h'⟩ := hS.tick h (moves + 1)
  have h2 := h'.new w.heap.size (by simp) (.cells #[.int .i64 (t : Int), .int .i64 op, .int .i64 arg, .int .i64 data] 27 (0, 0))
  have k8' : ((w.setCell ⟨bM, 9, none⟩ (.int .i64 (moves + 1))).alloc (.cells #[.int .i64 (t : Int), .int .i64 op, .int .i64 arg, .int .i64 data] 27)).cell? ⟨bM, 8, none⟩ = some (.slice (some ⟨gs, 0, none⟩) seats.length cap) := by
    rw [World.cell?_alloc_lt _ _ _ (by simpa using l1), World.cell?_setCell_other _ _ _ _ (by simp)]; exact c8
  have K8 := Lib.hid k8'
  clear cs fs f10 h' k8'
  unfold moveArgs
  go_enter Try.func19, Try.ntmps19
  go_wp2_with fail
  go_quiet (fail)
  go_upto_region 7 with fail
  go_cut [6] (fun s6 wx => s6 = .pointer (some ⟨gs, t * 5, none⟩) ∧ wx.cell? ⟨bM, 8, none⟩ = some (.slice (some ⟨gs, 0, none⟩) seats.length cap) ∧ Holds W wx (pt w.heap.size (.cells #[.int .i64 (t : Int), .int .i64 op, .int .i64 arg, .int .i64 data] 27 (0, 0)) + (S' + (pt kb (kitO ents) + (G + F)))))
  case first =>
    go_region
    go_wp2_with fail
    go_meet
    exact ⟨rfl, K8.out, (h2.drewN _).drew⟩
  case rest =>
    obtain ⟨rfl, k8, k0⟩ := hcut
    clear h2 K8 c7 c8 c9 f9 c10 l1 l2 l3 h
    have k1 := k0.of_eq (show _ = S' + (pt w.heap.size (.cells #[.int .i64 (t : Int), .int .i64 op, .int .i64 arg, .int .i64 data] 27 (0, 0)) + (pt kb (kitO ents) + (G + F))) from by ac_rfl)
    obtain ⟨gs2, cap2, cv, Sc, hcv, c7, c8, c9, f9, c10, f10, l1, l2, l3, cs, fs⟩ := hS'.cells k1 hn
    obtain ⟨rfl, rfl⟩ : gs2 = gs ∧ cap2 = cap := by rw [k8] at c8; simp at c8; exact ⟨c8.1.symm, c8.2.symm⟩
    have e0 : wc.cell? ⟨gs2, t * 5, none⟩ = some .nilIface := by have := cs t s hs 0 (by decide); rw [show t * 5 + 0 = t * 5 from rfl] at this; rw [this, ← htask]; rfl
    have k2 := k0.of_eq (show _ = pt kb (kitO ents) + (S' + (pt w.heap.size (.cells #[.int .i64 (t : Int), .int .i64 op, .int .i64 arg, .int .i64 data] 27 (0, 0)) + (G + F))) from by ac_rfl)
    have m1 : wc.cell? ⟨w.heap.size, 1, none⟩ = some (.int .i64 op) := by rw [k0.cell]; rfl
    have hlk := run_lookup_ints (P := Try.prog) (w := wc.drew) 125 25 139 Try.underlying125 Try.underlying25 .nilFunc zeroMaker kb ents.length ents 0 k2.at op
    rw [hlook] at hlk
    have hnf := nilFunc_no (.func f) #[] caps
    have HM := Lib.hid hmk
    clear hmk
    have m0 : wc.cell? ⟨w.heap.size, 0, none⟩ = some (.int .i64 (t : Int)) := by rw [k0.cell]; rfl
    have m2 : wc.cell? ⟨w.heap.size, 2, none⟩ = some (.int .i64 arg) := by rw [k0.cell]; rfl
    have m3 : wc.cell? ⟨w.heap.size, 3, none⟩ = some (.int .i64 data) := by rw [k0.cell]; rfl
    clear cs fs c9 f9 c10 f10 k8 k1 k2
    have K0 := Lib.hid k0
    clear k0
    go_wp2_with fail
    go_region
    go_wp2_with fail
    refine (HM.out _ S' K0.out.right.drew).mono ?_
    rintro e w5 ⟨rfl, h5⟩
    go_wp2_with fail
    go_ret
    exact ⟨rfl, S', hS', h5.of_eq (by ac_rfl)⟩


set_option maxHeartbeats 2000000 in
set_option maxRecDepth 100000 in
/-- The call begins. -/
theorem move_begin (t : Nat) (s : ASeat) (ents : List (Int × Value)) (hs : seats[t]? = some s) (htask : s.task = .nilIface) (hop : op ≠ 0) (hnc : calls.length ≤ 100000) (T : TypeId) (G2 : Nat → Hp) (f : FuncId) (caps : Array Value) (hlook : lookOf ents op .nilFunc = .func (.func f) #[] caps) (hcf : ∀ args w, (callFunc f args).run Try.prog w = .ok (.enter f args) w)
    (hmk : ∀ (w : World) (S1 : Hp), Holds W w (S1 + (pt kb (kitO ents) + (G + F))) → Calls Try.prog f (#[.int .i64 (t : Int), .agg #[.int .i64 (t : Int), .int .i64 op, .int .i64 arg, .int .i64 data]] ++ caps) w fun e w' => ∃ bt, e = .returned (.iface T (.pointer (some ⟨bt, 0, none⟩))) ∧ Holds W w' (S1 + (pt kb (kitO ents) + (G2 bt + F)))) (hn : 0 < seats.length) (hn2 : seats.length ≤ 1000) (hm : moves < 65536) (hm0 : 0 ≤ moves)
    (hS : MachAt bM bm (.map (some kb)) words log moves calls seats S) (h : Holds W w (S + (pt kb (kitO ents) + (G + F)))) :
    Calls Try.prog 19 (moveArgs bM t op arg data) w (fun e w' => ∃ bt, ListPost W bM bm (.map (some kb)) words log (moves + 1) (calls ++ [callNew t op arg data moves]) (seats.set t (seatNew (.iface T (.pointer (some ⟨bt, 0, none⟩))) calls.length)) (pt kb (kitO ents) + G2 bt) F (.bool true) e w') := by
  have ho : (op == 0) = false := by rw [beq_eq_false_iff_ne]; exact hop
  clear hop
  obtain ⟨gs, cap, cv, Sc, hcv, c7, c8, c9, f9, c10, f10, l1, l2, l3, cs, fs⟩ := hS.cells h hn
  have htl : t < seats.length := (List.getElem?_eq_some_iff.1 hs).1
  have q0 : (((seats.length : Nat) : Int) == 0) = false := by rw [beq_eq_false_iff_ne]; omega
  have d0 : decide ((t : Int) < 0) = false := by simp
  have d1 : decide ((seats.length : Int) ≤ (t : Int)) = false := by simp; omega
  obtain ⟨S', hS', h'⟩ := hS.tick h (moves + 1)
  have h2 := h'.new w.heap.size (by simp) (.cells #[.int .i64 (t : Int), .int .i64 op, .int .i64 arg, .int .i64 data] 27 (0, 0))
  have k8' : ((w.setCell ⟨bM, 9, none⟩ (.int .i64 (moves + 1))).alloc (.cells #[.int .i64 (t : Int), .int .i64 op, .int .i64 arg, .int .i64 data] 27)).cell? ⟨bM, 8, none⟩ = some (.slice (some ⟨gs, 0, none⟩) seats.length cap) := by
    rw [World.cell?_alloc_lt _ _ _ (by simpa using l1), World.cell?_setCell_other _ _ _ _ (by simp)]; exact c8
  have K8 := Lib.hid k8'
  clear cs fs f10 h' k8'
  unfold moveArgs
  go_enter Try.func19, Try.ntmps19
  go_wp2_with fail
  go_quiet (fail)
  go_upto_region 7 with fail
  go_cut [6] (fun s6 wx => s6 = .pointer (some ⟨gs, t * 5, none⟩) ∧ wx.cell? ⟨bM, 8, none⟩ = some (.slice (some ⟨gs, 0, none⟩) seats.length cap) ∧ Holds W wx (pt w.heap.size (.cells #[.int .i64 (t : Int), .int .i64 op, .int .i64 arg, .int .i64 data] 27 (0, 0)) + (S' + (pt kb (kitO ents) + (G + F)))))
  case first =>
    go_region
    go_wp2_with fail
    go_meet
    exact ⟨rfl, K8.out, (h2.drewN _).drew⟩
  case rest =>
    obtain ⟨rfl, k8, k0⟩ := hcut
    clear h2 K8 c7 c8 c9 f9 c10 l1 l2 l3 h
    have k1 := k0.of_eq (show _ = S' + (pt w.heap.size (.cells #[.int .i64 (t : Int), .int .i64 op, .int .i64 arg, .int .i64 data] 27 (0, 0)) + (pt kb (kitO ents) + (G + F))) from by ac_rfl)
    obtain ⟨gs2, cap2, cv, Sc, hcv, c7, c8, c9, f9, c10, f10, l1, l2, l3, cs, fs⟩ := hS'.cells k1 hn
    obtain ⟨rfl, rfl⟩ : gs2 = gs ∧ cap2 = cap := by rw [k8] at c8; simp at c8; exact ⟨c8.1.symm, c8.2.symm⟩
    have e0 : wc.cell? ⟨gs2, t * 5, none⟩ = some .nilIface := by have := cs t s hs 0 (by decide); rw [show t * 5 + 0 = t * 5 from rfl] at this; rw [this, ← htask]; rfl
    have k2 := k0.of_eq (show _ = pt kb (kitO ents) + (S' + (pt w.heap.size (.cells #[.int .i64 (t : Int), .int .i64 op, .int .i64 arg, .int .i64 data] 27 (0, 0)) + (G + F))) from by ac_rfl)
    have m1 : wc.cell? ⟨w.heap.size, 1, none⟩ = some (.int .i64 op) := by rw [k0.cell]; rfl
    have hlk := run_lookup_ints (P := Try.prog) (w := wc.drew) 125 25 139 Try.underlying125 Try.underlying25 .nilFunc zeroMaker kb ents.length ents 0 k2.at op
    rw [hlook] at hlk
    have hnf := nilFunc_no (.func f) #[] caps
    have HM := Lib.hid hmk
    clear hmk
    have m0 : wc.cell? ⟨w.heap.size, 0, none⟩ = some (.int .i64 (t : Int)) := by rw [k0.cell]; rfl
    have m2 : wc.cell? ⟨w.heap.size, 2, none⟩ = some (.int .i64 arg) := by rw [k0.cell]; rfl
    have m3 : wc.cell? ⟨w.heap.size, 3, none⟩ = some (.int .i64 data) := by rw [k0.cell]; rfl
    clear cs fs c9 f9 c10 f10 k8 k1 k2
    have K0 := Lib.hid k0
    clear k0
    go_wp2_with fail
    go_region
    go_wp2_with fail
    refine (HM.out _ (S' + pt w.heap.size (.cells #[.int .i64 (t : Int), .int .i64 op, .int .i64 arg, .int .i64 data] 27 (0, 0))) (K0.out.drew.of_eq (by ac_rfl))).mono ?_
    rintro e w5 ⟨bt, rfl, h5⟩
    have h6 := h5.of_eq (show _ = S' + (pt w.heap.size (.cells #[.int .i64 (t : Int), .int .i64 op, .int .i64 arg, .int .i64 data] 27 (0, 0)) + (pt kb (kitO ents) + (G2 bt + F))) from by ac_rfl)
    have c8' := (hS'.same (K0.out.of_eq (show _ = S' + (pt w.heap.size (.cells #[.int .i64 (t : Int), .int .i64 op, .int .i64 arg, .int .i64 data] 27 (0, 0)) + (pt kb (kitO ents) + (G + F))) from by ac_rfl)) h6 8).trans c8
    clear K0 HM hlk m0 m1 m2 m3 e0 c7 c8 l1 l2 l3 hcf hlook hnf hcv
    obtain ⟨gs3, cap3, cv, Sc, hcv, _, c8, c9, _, c10, f10, l1, l2, l3, cs, fs⟩ := hS'.cells h6 hn
    obtain ⟨rfl, rfl⟩ : gs3 = gs2 ∧ cap3 = cap2 := by rw [c8'] at c8; simp at c8; exact ⟨c8.1.symm, c8.2.symm⟩
    obtain ⟨S7, hS7, h7⟩ := hS'.seat h6 hs c8 (.iface T (.pointer (some ⟨bt, 0, none⟩))) calls.length
    obtain ⟨ca, ccap, rfl⟩ := hcv.form
    have u0 := cs t s hs 0 (by decide)
    rw [Nat.add_zero] at u0
    have u1 := cs t s hs 1 (by decide)
    have u2 := cs t s hs 2 (by decide)
    have u3 := cs t s hs 3 (by decide)
    have u4 := cs t s hs 4 (by decide)
    simp only [encSeat, List.getElem?_cons_zero, List.getElem?_cons_succ] at u0 u1 u2 u3 u4
    have v0 := fs (t * 5)
    have v1 := fs (t * 5 + 1)
    have v2 := fs (t * 5 + 2)
    have v3 := fs (t * 5 + 3)
    have v4 := fs (t * 5 + 4)
    have H7 := Lib.hid h7
    clear cs fs c8 c8' c9 f10 hcv h5 h6 h7
    go_upto_region 21 with fail
    go_cut [] (fun wx => Holds W wx (S7 + (pt w.heap.size (.cells #[.int .i64 (t : Int), .int .i64 op, .int .i64 arg, .int .i64 data] 27 (0, 0)) + (pt kb (kitO ents) + (G2 bt + F)))))
    case first =>
      go_wp2_with fail
      go_meet
      exact H7.out
    case rest =>
      clear u0 u1 u2 u3 u4 v0 v1 v2 v3 v4 H7 c10 l1 l2
      have h8 := hcut
      clear hcut
      obtain ⟨i0, hi, hz0, hz1, hz2⟩ := info_parts infoCall
      have hS8 := hS7
      obtain ⟨th, nw, mv, us, cv, sv, Sc, Ss, Sm, hcv, hsv, hmm, rfl⟩ := hS8
      have k0 := h8.of_eq (show _ = pt w.heap.size (.cells #[.int .i64 (t : Int), .int .i64 op, .int .i64 arg, .int .i64 data] 27 (0, 0)) + (pt bM (machO bm th nw nilp nilp us (.slice none 0 0) (.map (some kb)) sv (moves + 1) cv) + (Sc + (Ss + Sm)) + (pt kb (kitO ents) + (G2 bt + F))) from by ac_rfl)
      have k1 := h8.of_eq (show _ = pt bM (machO bm th nw nilp nilp us (.slice none 0 0) (.map (some kb)) sv (moves + 1) cv) + (pt w.heap.size (.cells #[.int .i64 (t : Int), .int .i64 op, .int .i64 arg, .int .i64 data] 27 (0, 0)) + (Sc + (Ss + Sm)) + (pt kb (kitO ents) + (G2 bt + F))) from by ac_rfl)
      unfold machO at k1
      have m0 : wc.cell? ⟨w.heap.size, 0, none⟩ = some (.int .i64 (t : Int)) := by rw [k0.cell]; rfl
      have m1 : wc.cell? ⟨w.heap.size, 1, none⟩ = some (.int .i64 op) := by rw [k0.cell]; rfl
      have m2 : wc.cell? ⟨w.heap.size, 2, none⟩ = some (.int .i64 arg) := by rw [k0.cell]; rfl
      have m3 : wc.cell? ⟨w.heap.size, 3, none⟩ = some (.int .i64 data) := by rw [k0.cell]; rfl
      have c10 : wc.cell? ⟨bM, 10, none⟩ = some cv := by rw [k1.cell]; rfl
      have lw := k0.lt
      have H8 := Lib.hid h8
      have hcv0 := hcv
      clear h8 k0 k1
      go_wp2_with fail
      refine wp_region_z (fun w' => w'.cell? ⟨w.heap.size, 0, none⟩ = some (.int .i64 (t : Int)) ∧ w'.cell? ⟨w.heap.size, 1, none⟩ = some (.int .i64 op) ∧ w'.cell? ⟨w.heap.size, 2, none⟩ = some (.int .i64 arg) ∧ w'.cell? ⟨w.heap.size, 3, none⟩ = some (.int .i64 data) ∧ w'.cell? ⟨bM, 10, none⟩ = some cv) 19 (by kernel_rfl) ?_
      have hHeld : wc.drew.cell? ⟨w.heap.size, 0, none⟩ = some (.int .i64 (t : Int)) ∧ wc.drew.cell? ⟨w.heap.size, 1, none⟩ = some (.int .i64 op) ∧ wc.drew.cell? ⟨w.heap.size, 2, none⟩ = some (.int .i64 arg) ∧ wc.drew.cell? ⟨w.heap.size, 3, none⟩ = some (.int .i64 data) ∧ wc.drew.cell? ⟨bM, 10, none⟩ = some cv := ⟨m0, m1, m2, m3, c10⟩
      refine wpAnyZ_take (i := 0) (v := ?_) rfl (by kernel_rfl) (by kernel_rfl) (by kernel_rfl) (by kernel_rfl) (fun _ _ _ h => h) (Or.inl ⟨by rfl, fun w hSw => ?_⟩) hHeld ?_
      case refine_2 => go_simp; rfl
      try simp only [Act.put, List.setIfInBounds_toArray]
      refine wpAnyZ_take (i := 1) (v := ?_) rfl (by kernel_rfl) (by kernel_rfl) (by kernel_rfl) (by kernel_rfl) (fun _ _ _ h => h) (Or.inl ⟨by rfl, fun w hSw => ?_⟩) hHeld ?_
      case refine_2 => go_simp; rfl
      try simp only [Act.put]
      refine wpAnyZ_take (i := 2) (v := ?_) rfl (by kernel_rfl) (by kernel_rfl) (by kernel_rfl) (by kernel_rfl) (fun _ _ _ h => h) (Or.inl ⟨by rfl, fun w hSw => ?_⟩) hHeld ?_
      case refine_2 => go_simp; rfl
      try simp only [Act.put]
      refine wpAnyZ_take (i := 3) (v := ?_) rfl (by kernel_rfl) (by kernel_rfl) (by kernel_rfl) (by kernel_rfl) (fun _ _ _ h => h) (Or.inl ⟨by rfl, fun w hSw => ?_⟩) hHeld ?_
      case refine_2 => go_simp; rfl
      try simp only [Act.put]
      refine wpAnyZ_take (i := 4) (v := ?_) rfl (by kernel_rfl) (by kernel_rfl) (by kernel_rfl) (by kernel_rfl) (fun _ _ _ h => h) (Or.inl ⟨by rfl, fun w hSw => ?_⟩) hHeld ?_
      case refine_2 => go_simp; rfl
      try simp only [Act.put]
      refine wpAnyZ_take (i := 5) (v := ?_) rfl (by kernel_rfl) (by kernel_rfl) (by kernel_rfl) (by kernel_rfl) (fun _ _ _ h => h) (Or.inl ⟨by rfl, fun w hSw => ?_⟩) hHeld ?_
      case refine_2 => go_simp; rfl
      try simp only [Act.put]
      refine wpAnyZ_take (i := 6) (v := ?_) rfl (by kernel_rfl) (by kernel_rfl) (by kernel_rfl) (by kernel_rfl) (fun _ _ _ h => h) (Or.inl ⟨by rfl, fun w hSw => ?_⟩) hHeld ?_
      case refine_2 => go_simp; rfl
      try simp only [Act.put]
      refine wpAnyZ_take (i := 7) (v := ?_) rfl (by kernel_rfl) (by kernel_rfl) (by kernel_rfl) (by kernel_rfl) (fun _ _ _ h => h) (Or.inl ⟨by rfl, fun w hSw => ?_⟩) hHeld ?_
      case refine_2 => go_simp; rfl
      try simp only [Act.put]
      refine wpAnyZ_take (i := 8) (v := ?_) rfl (by kernel_rfl) (by kernel_rfl) (by kernel_rfl) (by kernel_rfl) (fun _ _ _ h => h) (Or.inl ⟨by rfl, fun w hSw => ?_⟩) hHeld ?_
      case refine_2 => go_simp; rfl
      try simp only [Act.put]
      refine wpAnyZ_take (i := 9) (v := ?_) rfl (by kernel_rfl) (by kernel_rfl) (by kernel_rfl) (by kernel_rfl) (fun _ _ _ h => h) (Or.inl ⟨by rfl, fun w hSw => ?_⟩) hHeld ?_
      case refine_2 => go_simp; rfl
      try simp only [Act.put]
      refine wpAnyZ_take (i := 10) (v := ?_) rfl (by kernel_rfl) (by kernel_rfl) (by kernel_rfl) (by kernel_rfl) (fun _ _ _ h => h) (Or.inl ⟨by rfl, fun w hSw => ?_⟩) hHeld ?_
      case refine_2 => go_simp; rfl
      try simp only [Act.put]
      refine wpAnyZ_take (i := 11) (v := ?_) rfl (by kernel_rfl) (by kernel_rfl) (by kernel_rfl) (by kernel_rfl) (fun _ _ _ h => h) (Or.inl ⟨by rfl, fun w hSw => ?_⟩) hHeld ?_
      case refine_2 => go_simp; rfl
      try simp only [Act.put]
      refine wpAnyZ_take (i := 12) (v := ?_) rfl (by kernel_rfl) (by kernel_rfl) (by kernel_rfl) (by kernel_rfl) (fun _ _ _ h => h) (Or.inl ⟨by rfl, fun w hSw => ?_⟩) hHeld ?_
      case refine_2 => go_simp; rfl
      try simp only [Act.put]
      refine wpAnyZ_take (i := 13) (v := ?_) rfl (by kernel_rfl) (by kernel_rfl) (by kernel_rfl) (by kernel_rfl) (fun _ _ _ h => h) (Or.inl ⟨by rfl, fun w hSw => ?_⟩) hHeld ?_
      case refine_2 => go_simp; rfl
      try simp only [Act.put]
      refine wpAnyZ_take (i := 14) (v := ?_) rfl (by kernel_rfl) (by kernel_rfl) (by kernel_rfl) (by kernel_rfl) (fun _ _ _ h => h) (Or.inl ⟨by rfl, fun w hSw => ?_⟩) hHeld ?_
      case refine_2 => go_simp; rfl
      try simp only [Act.put]
      refine wpAnyZ_one (i := 15) (by kernel_rfl) rfl (fun K hK => ?_)
      go_simp
      refine hK _ _ (fun _ => ?_) (fun hHeld2 => ?_)
      · simp [*, World.cell?_alloc_some]
      have hHeld := hHeld2 (by decide)
      clear hK K hHeld2
      try simp only [Act.put, List.setIfInBounds_toArray, List.set_cons_zero, List.set_cons_succ]
      refine wpAnyZ_one (i := 16) (by kernel_rfl) rfl (fun K hK => ?_)
      refine step_append_one (W := W) (F := pt w.heap.size (.cells #[.int .i64 (t : Int), .int .i64 op, .int .i64 arg, .int .i64 data] 27 (0, 0)) + (pt bM (machO bm th nw nilp nilp us (.slice none 0 0) (.map (some kb)) sv (moves + 1) cv) + (Ss + Sm + (pt kb (kitO ents) + (G2 bt + F))))) rfl (.tmp 107) (.tmp 118) 28 rfl 66 i0 _ 9 72 Try.underlying28 hi hz0 hz1 hz2 rfl (by decide) cv calls.length (rows encCall calls) Sc rfl hcv0 wc.heap.size 1 66 (encCall (callNew t op arg data moves)) rfl rfl (by simp [encCall, Value.oneCell']) (by unfold maxLen; omega) (by omega) ((H8.out.new wc.heap.size rfl (.cells (encCall (callNew t op arg data moves)).toArray 66 (0, 0))).drew.of_eq (by ac_rfl)) ?_
      intro g capg w9 S9 r1 r2
      have n0 := r2.of_eq (show _ = pt w.heap.size (.cells #[.int .i64 (t : Int), .int .i64 op, .int .i64 arg, .int .i64 data] 27 (0, 0)) + (S9 + (pt bM (machO bm th nw nilp nilp us (.slice none 0 0) (.map (some kb)) sv (moves + 1) cv) + (Ss + Sm + (pt kb (kitO ents) + (G2 bt + F))))) from by ac_rfl)
      have n1 := r2.of_eq (show _ = pt bM (machO bm th nw nilp nilp us (.slice none 0 0) (.map (some kb)) sv (moves + 1) cv) + (pt w.heap.size (.cells #[.int .i64 (t : Int), .int .i64 op, .int .i64 arg, .int .i64 data] 27 (0, 0)) + (S9 + (Ss + Sm + (pt kb (kitO ents) + (G2 bt + F))))) from by ac_rfl)
      unfold machO at n1
      refine hK _ _ (fun _ => ⟨by rw [n0.cell]; rfl, by rw [n0.cell]; rfl, by rw [n0.cell]; rfl, by rw [n0.cell]; rfl, by rw [n1.cell]; rfl⟩) (fun hHeld2 => ?_)
      have hHeld := hHeld2 (by decide)
      clear hK K hHeld2
      try simp only [Act.put, List.setIfInBounds_toArray]
      refine wpAnyZ_one (i := 17) (by kernel_rfl) rfl (fun K hK => ?_)
      go_simp
      refine hK _ _ (fun _ => hHeld) (fun _ => ?_)
      clear hK K
      try simp only [Act.put, List.setIfInBounds_toArray, List.set_cons_zero, List.set_cons_succ]
      refine wpAnyZ_one (i := 18) (by kernel_rfl) rfl (fun K hK => ?_)
      go_simp
      refine hK _ _ (fun _ => hHeld) (fun _ => ?_)
      clear hK K
      try simp only [Act.put, List.setIfInBounds_toArray, List.set_cons_zero, List.set_cons_succ]
      have p1 := hHeld.2.2.2.2
      have p2 := n1.free 10
      refine wpAnyZ_one (i := 19) (by kernel_rfl) rfl (fun K hK => ?_)
      go_simp
      refine hK _ _ (fun h => absurd rfl h) (fun _ => ?_)
      clear hK K
      try simp only [Act.put, List.setIfInBounds_toArray, List.set_cons_zero, List.set_cons_succ]
      refine wpAnyZ_done (by kernel_rfl) ?_ _
      go_wp2_with fail
      go_ret
      have e1 : (calls ++ [callNew t op arg data moves]).length = calls.length + 1 := by simp
      have e2 : rows encCall (calls ++ [callNew t op arg data moves]) = rows encCall calls ++ encCall (callNew t op arg data moves) := by simp [rows]
      refine ⟨bt, rfl, _, ⟨th, nw, mv, us, _, sv, S9, Ss, Sm, by rw [e1, e2]; exact r1, hsv, hmm, rfl⟩, ?_⟩
      exact ((n1.set 10 _).of_eq (show _ = (pt bM (machO bm th nw nilp nilp us (.slice none 0 0) (.map (some kb)) sv (moves + 1) (.slice (some ⟨g, 0, none⟩) (calls.length + 1) capg)) + (S9 + (Ss + Sm)) + (pt kb (kitO ents) + G2 bt + F)) + pt w.heap.size (.cells #[.int .i64 (t : Int), .int .i64 op, .int .i64 arg, .int .i64 data] 27 (0, 0)) from by unfold machO; simp only [List.setIfInBounds_toArray]; ac_rfl)).left

end
end Go.Proofs.Ythifeaigdobonaa
