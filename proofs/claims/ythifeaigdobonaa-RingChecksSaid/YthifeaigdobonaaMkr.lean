/- The makers of the deque's tasks. -/
import Derived.Test.YthifeaigdobonaaDqa
import Derived.Laws.EntriesVeiled
namespace Go.Proofs.Ythifeaigdobonaa
open Go.RowKit

def boxO (bh : Nat) : Obj := .cells #[.pointer (some ⟨bh, 0, none⟩)] 107 (0, 0)
def mvV (th op arg data : Int) : Value := .agg #[.int .i64 th, .int .i64 op, .int .i64 arg, .int .i64 data]
def capsV (bv : Nat) : Array Value := #[.pointer (some ⟨bv, 0, none⟩)]

section
variable (W w : World) (bv bh : Nat) (op arg data : Int) (S : Hp)

theorem make_push (h : Holds W w (pt bv (boxO bh) + S)) :
    Calls Try.prog 51 (#[.int .i64 ((0 : Nat) : Int), mvV ((0 : Nat) : Int) op arg data] ++ capsV bv) w fun e w' =>
      ∃ bt, e = .returned (.iface 112 (.pointer (some ⟨bt, 0, none⟩))) ∧ Holds W w' (pt bt (tkO 117 bh .nilFunc 0 0 arg []) + (pt bv (boxO bh) + S)) := by
  have c0 : w.cell? ⟨bv, 0, none⟩ = some (.pointer (some ⟨bh, 0, none⟩)) := by unfold boxO at h; rw [h.cell]; rfl
  have hlt := h.lt
  unfold capsV mvV
  go_enter Try.func51, Try.ntmps51
  go_wp2_with fail
  go_ret
  exact ⟨_, rfl, ((h.alloc _).right.new _ (by simp) _)⟩

theorem make_push_no (t : Nat) (ht : t ≠ 0) (h : Holds W w S) :
    Calls Try.prog 51 (#[.int .i64 (t : Int), mvV t op arg data] ++ capsV bv) w fun e w' => e = .returned .nilIface ∧ Holds W w' S := by
  have h0 : ¬ (t : Int) = 0 := by omega
  unfold capsV mvV
  go_enter Try.func51, Try.ntmps51
  go_wp2_with fail
  go_ret
  exact ⟨rfl, (h.alloc _).right⟩

theorem make_take (h : Holds W w (pt bv (boxO bh) + S)) :
    Calls Try.prog 52 (#[.int .i64 ((0 : Nat) : Int), mvV ((0 : Nat) : Int) op arg data] ++ capsV bv) w fun e w' =>
      ∃ bt, e = .returned (.iface 119 (.pointer (some ⟨bt, 0, none⟩))) ∧ Holds W w' (pt bt (tkO 121 bh .nilFunc 0 0 0 [.bool false]) + (pt bv (boxO bh) + S)) := by
  have c0 : w.cell? ⟨bv, 0, none⟩ = some (.pointer (some ⟨bh, 0, none⟩)) := by unfold boxO at h; rw [h.cell]; rfl
  have hlt := h.lt
  unfold capsV mvV
  go_enter Try.func52, Try.ntmps52
  go_wp2_with fail
  go_ret
  exact ⟨_, rfl, ((h.alloc _).right.new _ (by simp) _)⟩

theorem make_take_no (t : Nat) (ht : t ≠ 0) (h : Holds W w S) :
    Calls Try.prog 52 (#[.int .i64 (t : Int), mvV t op arg data] ++ capsV bv) w fun e w' => e = .returned .nilIface ∧ Holds W w' S := by
  have h0 : ¬ (t : Int) = 0 := by omega
  unfold capsV mvV
  go_enter Try.func52, Try.ntmps52
  go_wp2_with fail
  go_ret
  exact ⟨rfl, (h.alloc _).right⟩

theorem make_steal (t : Nat) (h : Holds W w (pt bv (boxO bh) + S)) :
    Calls Try.prog 53 (#[.int .i64 (t : Int), mvV t op arg data] ++ capsV bv) w fun e w' =>
      ∃ bt, e = .returned (.iface 122 (.pointer (some ⟨bt, 0, none⟩))) ∧ Holds W w' (pt bt (tkO 123 bh .nilFunc 0 0 0 []) + (pt bv (boxO bh) + S)) := by
  have c0 : w.cell? ⟨bv, 0, none⟩ = some (.pointer (some ⟨bh, 0, none⟩)) := by unfold boxO at h; rw [h.cell]; rfl
  have hlt := h.lt
  unfold capsV mvV
  go_enter Try.func53, Try.ntmps53
  go_wp2_with fail
  go_ret
  exact ⟨_, rfl, ((h.alloc _).right.new _ (by simp) _)⟩
end

end Go.Proofs.Ythifeaigdobonaa
