/- Machine.Busy. -/
import Derived.Test.YthifeaigdobonaaDqn
namespace Go.Proofs.Ythifeaigdobonaa
open Go.RowKit

section
variable (W w : World) (bM bm : Nat) (kit : Value) (words : List Int) (log : List Acc) (moves : Int) (calls : List ACall) (seats : List ASeat) (S F : Hp)

theorem busy_out (th : Int) (ht : th < 0 ∨ (seats.length : Int) ≤ th) (hn : 0 < seats.length) (_hn2 : seats.length ≤ 1000) (hS : MachAt bM bm kit words log moves calls seats S) (h : Holds W w (S + F)) :
    Calls Try.prog 21 #[.pointer (some ⟨bM, 0, none⟩), .int .i64 th] w fun e w' => w = w' ∧ e = .returned (.bool false) := by
  obtain ⟨gs, cap, cv, Sc, hcv, c7, c8, c9, f9, c10, f10, l1, l2, l3, cs, fs⟩ := hS.cells h hn
  clear cs fs f10 f9 c10 c7 hcv
  by_cases h0 : th < 0
  · have d0 : decide (0 ≤ th) = false := by simp; omega
    go_enter Try.func21, Try.ntmps21
    go_wp2_with fail
    go_ret
    exact ⟨rfl, rfl⟩
  · have d0 : decide (0 ≤ th) = true := by simp; omega
    have d1 : decide (th < (seats.length : Int)) = false := by simp; omega
    go_enter Try.func21, Try.ntmps21
    go_wp2_with fail
    go_ret
    exact ⟨rfl, rfl⟩

theorem busy_no (t : Nat) (s : ASeat) (hs : seats[t]? = some s) (htask : s.task = .nilIface) (hn : 0 < seats.length) (_hn2 : seats.length ≤ 1000) (hS : MachAt bM bm kit words log moves calls seats S) (h : Holds W w (S + F)) :
    Calls Try.prog 21 #[.pointer (some ⟨bM, 0, none⟩), .int .i64 (t : Int)] w fun e w' => w = w' ∧ e = .returned (.bool false) := by
  obtain ⟨gs, cap, cv, Sc, hcv, c7, c8, c9, f9, c10, f10, l1, l2, l3, cs, fs⟩ := hS.cells h hn
  have htl : t < seats.length := (List.getElem?_eq_some_iff.1 hs).1
  have e0 : w.cell? ⟨gs, t * 5, none⟩ = some .nilIface := by have := cs t s hs 0 (by decide); rw [show t * 5 + 0 = t * 5 from rfl] at this; rw [this, ← htask]; rfl
  have d0 : decide (0 ≤ (t : Int)) = true := by simp
  have d1 : decide ((t : Int) < (seats.length : Int)) = true := by simp; omega
  clear cs fs f10 f9 c10 c7 hcv
  go_enter Try.func21, Try.ntmps21
  go_wp2_with fail
  go_ret
  exact ⟨rfl, rfl⟩

theorem busy_yes (t : Nat) (s : ASeat) (T : TypeId) (bt : Nat) (hs : seats[t]? = some s) (htask : s.task = .iface T (.pointer (some ⟨bt, 0, none⟩))) (hn : 0 < seats.length) (_hn2 : seats.length ≤ 1000) (hS : MachAt bM bm kit words log moves calls seats S) (h : Holds W w (S + F)) :
    Calls Try.prog 21 #[.pointer (some ⟨bM, 0, none⟩), .int .i64 (t : Int)] w fun e w' => w = w' ∧ e = .returned (.bool true) := by
  obtain ⟨gs, cap, cv, Sc, hcv, c7, c8, c9, f9, c10, f10, l1, l2, l3, cs, fs⟩ := hS.cells h hn
  have htl : t < seats.length := (List.getElem?_eq_some_iff.1 hs).1
  have e0 : w.cell? ⟨gs, t * 5, none⟩ = some (.iface T (.pointer (some ⟨bt, 0, none⟩))) := by have := cs t s hs 0 (by decide); rw [show t * 5 + 0 = t * 5 from rfl] at this; rw [this, ← htask]; rfl
  have d0 : decide (0 ≤ (t : Int)) = true := by simp
  have d1 : decide ((t : Int) < (seats.length : Int)) = true := by simp; omega
  clear cs fs f10 f9 c10 c7 hcv
  go_enter Try.func21, Try.ntmps21
  go_wp2_with fail
  go_ret
  exact ⟨rfl, rfl⟩
end

namespace DM
def busy (m : DM) (t : Int) : Bool := decide (0 ≤ t ∧ t < (m.all.length : Int) ∧ 0 ≤ (m.th t.toNat).call)
end DM

theorem deque_busy (W w : World) (bM bm kb bv bh : Nat) {m : DM} (F : Hp) (th : Int) {S : Hp} (hrel : PRel bM bm kb bv bh m S) (h : Holds W w (S + F)) :
    Calls Try.prog 21 #[.pointer (some ⟨bM, 0, none⟩), .int .i64 th] w fun e w' => w = w' ∧ e = .returned (.bool (m.busy th)) := by
  obtain ⟨hi, seats, tb, hub, Sm, h1, h2, h3, h4, h5, rfl⟩ := hrel
  have hn := hi.nth
  have h' := h.of_eq (Hp.add_assoc _ _ _)
  by_cases q : th < 0 ∨ (m.all.length : Int) ≤ th
  · have e : m.busy th = false := decide_eq_false (by omega)
    rw [e]
    exact busy_out W w bM bm _ _ _ _ _ seats Sm _ th (by omega) (by omega) (by omega) h4 h'
  · obtain ⟨t, ht⟩ := Int.eq_ofNat_of_zero_le (show 0 ≤ th by omega)
    subst ht
    have hlt : t < m.all.length := by omega
    have hx := List.getElem?_eq_getElem hlt
    have hth : m.th ((t : Int)).toNat = m.all[t] := by rw [Int.toNat_natCast]; exact DM.th_of hx
    obtain ⟨s, b, e1, e2, hs⟩ := h3 t _ hx
    rcases hs with ⟨hc, htask, _⟩ | ⟨hc, c, bt, o, _, _, htask, _⟩
    · have e : m.busy t = false := decide_eq_false (by rw [hth]; omega)
      rw [e]
      exact busy_no W w bM bm _ _ _ _ _ seats Sm _ t s e1 htask (by omega) (by omega) h4 h'
    · have e : m.busy t = true := decide_eq_true (by rw [hth]; omega)
      rw [e]
      exact busy_yes W w bM bm _ _ _ _ _ seats Sm _ t s _ bt e1 htask (by omega) (by omega) h4 h'

end Go.Proofs.Ythifeaigdobonaa
