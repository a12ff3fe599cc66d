/- The deque's raise; OpDequeTake's duel and end. -/
import Derived.Test.YthifeaigdobonaaDqa
import Derived.Laws.EntriesVeiled
import Derived.Deep.DeepCutAuto
namespace Go.Proofs.Ythifeaigdobonaa
open Go.RowKit

section
variable (W w : World) (q : EK) (ws : List Int) (log : List Acc) (room top rank at_ : Int) (last : Bool) (cs ss : Array Value) (S F : Hp) (nx : Value) (b t v : Int) (ty : TypeId) (more : List Value)

set_option maxHeartbeats 1000000 in
theorem raise_yes (h2 : 2 ≤ ws.length) (hb : log.length < 1048576) (b1 : -1000000000 ≤ t ∧ t ≤ 1000000000) (b2 : -1000000000 ≤ wd ws 0 ∧ wd ws 0 ≤ 1000000000) (heq : wd ws 0 = t)
    (hS : Env q false ws log (tkO ty q.bh nx b t v more) (hubO room top last rank at_) cs ss S) (h : Holds W w (S + F)) :
    Calls Try.prog 170 #[.pointer (some ⟨q.bt, 0, none⟩), .pointer (some ⟨q.k.bd, 0, none⟩)] w
      (EPost W q true (ws.set 0 (t + 1)) (log ++ [⟨q.k.nw, q.k.th, 3, 0, un t, un (t + 1), un (wd ws 0)⟩]) (tkO ty q.bh nx b t v more) (hubO room (t + 1) last rank at_) cs ss F (.bool true)) := by
  obtain ⟨tc, tf, _⟩ := hS.tcell h
  have c3 : w.cell? ⟨q.bt, 3, none⟩ = some (.int .i64 t) := by rw [tc]; rfl
  clear tc tf
  have hd := h.drew
  have i0 : I64 (wd ws 0) := I64.small b2.1 b2.2
  have i1 : I64 t := I64.small b1.1 b1.2
  have hw : IntKind.i64.wrap (t + 1) = t + 1 := IntWalk.i64_in _ (by omega)
  have e1 : swp ws 0 t (t + 1) = ws.set 0 (t + 1) := by simp [swp, heq]
  have e2 : swb ws 0 t = true := by simp [swb, heq]
  have HE := Lib.hid heq
  have E1 := Lib.hid e1
  have E2 := Lib.hid e2
  clear heq e1 e2
  go_enter Try.func170, Try.ntmps170
  go_wp2_with fail
  go_region_held3 (fun w' => w'.cell? ⟨q.bt, 3, none⟩ = some (.int .i64 t)) (go_keep)
    (first
      | (go_at_call 160; refine (number_at _ _).mono ?_; rintro e w' ⟨rfl, rfl⟩; try rw [hw])
      | (go_at_call 172; refine (e_swap W _ q ws log _ _ cs ss S F 0 t (t + 1) (by decide) (by omega) i0 i1 hb hS hd).mono ?_; rintro e w1 ⟨rfl, S1, hS1, h1⟩; obtain ⟨tc, _, _⟩ := hS1.tcell h1; have k3 : w1.cell? ⟨q.bt, 3, none⟩ = some (.int .i64 t) := by {rw [tc]; rfl}; clear tc))
  rw [show (0 : Int).toNat = 0 from rfl] at *
  rw [E1.out] at hS1
  rw [E2.out]
  clear hS h hd c3 k3 E1 E2 HE i0 i1
  obtain ⟨tc, tf, _⟩ := hS1.tcell h1
  have c0 : w1.cell? ⟨q.bt, 0, none⟩ = some (.pointer (some ⟨q.bh, 0, none⟩)) := by rw [tc]; rfl
  have c3 : w1.cell? ⟨q.bt, 3, none⟩ = some (.int .i64 t) := by rw [tc]; rfl
  clear tc tf
  obtain ⟨_, d1, _, _, _⟩ := hS1.hcell h1
  obtain ⟨hf, hne⟩ := hS1.hfree h1
  have f1 := hf 1
  clear hf
  obtain ⟨S2, hS2, h2⟩ := hS1.hset h1 1 (.int .i64 (t + 1))
  have h3 := h2.drew
  go_wp2_with fail
  go_region
  go_wp2_with fail
  go_ret
  exact ⟨rfl, S2, hS2, h3⟩

set_option maxHeartbeats 1000000 in
theorem raise_no (h2 : 2 ≤ ws.length) (hb : log.length < 1048576) (b1 : -1000000000 ≤ t ∧ t ≤ 1000000000) (b2 : -1000000000 ≤ wd ws 0 ∧ wd ws 0 ≤ 1000000000) (heq : wd ws 0 ≠ t)
    (hS : Env q false ws log (tkO ty q.bh nx b t v more) (hubO room top last rank at_) cs ss S) (h : Holds W w (S + F)) :
    Calls Try.prog 170 #[.pointer (some ⟨q.bt, 0, none⟩), .pointer (some ⟨q.k.bd, 0, none⟩)] w
      (EPost W q true ws (log ++ [⟨q.k.nw, q.k.th, 3, 0, un t, un (t + 1), un (wd ws 0)⟩]) (tkO ty q.bh nx b t v more) (hubO room top last rank at_) cs ss F (.bool false)) := by
  obtain ⟨tc, tf, _⟩ := hS.tcell h
  have c3 : w.cell? ⟨q.bt, 3, none⟩ = some (.int .i64 t) := by rw [tc]; rfl
  clear tc tf
  have hd := h.drew
  have i0 : I64 (wd ws 0) := I64.small b2.1 b2.2
  have i1 : I64 t := I64.small b1.1 b1.2
  have hw : IntKind.i64.wrap (t + 1) = t + 1 := IntWalk.i64_in _ (by omega)
  have e1 : swp ws 0 t (t + 1) = ws := by simp [swp, heq]
  have e2 : swb ws 0 t = false := by simp [swb, heq]
  have HE := Lib.hid heq
  have E1 := Lib.hid e1
  have E2 := Lib.hid e2
  clear heq e1 e2
  go_enter Try.func170, Try.ntmps170
  go_wp2_with fail
  go_region_held3 (fun w' => w'.cell? ⟨q.bt, 3, none⟩ = some (.int .i64 t)) (go_keep)
    (first
      | (go_at_call 160; refine (number_at _ _).mono ?_; rintro e w' ⟨rfl, rfl⟩; try rw [hw])
      | (go_at_call 172; refine (e_swap W _ q ws log _ _ cs ss S F 0 t (t + 1) (by decide) (by omega) i0 i1 hb hS hd).mono ?_; rintro e w1 ⟨rfl, S1, hS1, h1⟩; obtain ⟨tc, _, _⟩ := hS1.tcell h1; have k3 : w1.cell? ⟨q.bt, 3, none⟩ = some (.int .i64 t) := by {rw [tc]; rfl}; clear tc))
  rw [show (0 : Int).toNat = 0 from rfl] at *
  rw [E1.out] at hS1
  rw [E2.out]
  clear hS h hd c3 k3 E1 E2 HE i0 i1
  go_wp2_with fail
  go_ret
  exact ⟨rfl, S1, hS1, h1⟩

end
end Go.Proofs.Ythifeaigdobonaa
