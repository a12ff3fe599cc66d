/- The deque's tasks: what a task's block, the hub's block, the calls' row and the seats' row hold; the small helpers. -/
import Derived.Test.YthifeaigdobonaaDesk
import Derived.Lib.Hide
namespace Go.Proofs.Ythifeaigdobonaa
open Go.RowKit

/-- An int as a word, and back. -/
def un (x : Int) : Int := IntKind.u64.wrap x
def sn (x : Int) : Int := wrap64 x
def I64 (x : Int) : Prop := -9223372036854775808 ≤ x ∧ x ≤ 9223372036854775807
theorem sn_un {x : Int} (h : I64 x) : sn (un x) = x := by
  unfold sn un I64 at *
  have e : IntKind.u64.wrap x = x % 18446744073709551616 := by simp [IntKind.wrap, IntKind.bits, IntKind.signed]
  rw [e]
  unfold wrap64
  omega
theorem un_zero : un 0 = 0 := by decide
theorem I64.small {x : Int} (h0 : -1000000000 ≤ x) (h1 : x ≤ 1000000000) : I64 x := ⟨by omega, by omega⟩
theorem wd_map (l : List Int) (i : Nat) : wd (l.map un) i = un (wd l i) := by
  unfold wd
  rw [List.getElem?_map]
  cases l[i]? <;> simp [un_zero]
theorem un_inj {x y : Int} (hx : I64 x) (hy : I64 y) : un x = un y ↔ x = y := ⟨fun h => by rw [← sn_un hx, ← sn_un hy, h], fun h => by rw [h]⟩
theorem swp_map (l : List Int) (i : Nat) (x y : Int) (hl : I64 (wd l i)) (hx : I64 x) : swp (l.map un) i (un x) (un y) = (swp l i x y).map un := by
  unfold swp
  rw [wd_map, List.map_set.symm]
  by_cases h : wd l i = x
  · rw [if_pos h, if_pos (by rw [h])]
  · rw [if_neg h, if_neg (by rw [un_inj hl hx]; exact h)]
theorem swb_map (l : List Int) (i : Nat) (x : Int) (hl : I64 (wd l i)) (hx : I64 x) : swb (l.map un) i (un x) = swb l i x := by
  unfold swb
  rw [wd_map]
  exact decide_eq_decide.2 (un_inj hl hx)

theorem number_at (x : Int) (w : World) : Calls Try.prog 160 #[.int .i64 x] w fun e w' => w = w' ∧ e = .returned (.int .u64 (un x)) := by
  go_enter Try.func160, Try.ntmps160
  go_wp2
  go_ret
  exact ⟨rfl, rfl⟩
theorem value_at (x : Int) (hx : I64 x) (w : World) : Calls Try.prog 61 #[.int .u64 (un x)] w fun e w' => w = w' ∧ e = .returned (.int .i64 x) := by
  have e := sn_un hx
  unfold sn at e
  have E := Lib.hid e
  clear e hx
  go_enter Try.func61, Try.ntmps61
  go_wp2
  go_ret
  exact ⟨rfl, by rw [E.out]; rfl⟩

/-- A task's block: the hub, what comes next, its numbers. -/
def tkO (ty : TypeId) (bh : Nat) (next : Value) (b t v : Int) (more : List Value) : Obj :=
  .cells (.pointer (some ⟨bh, 0, none⟩) :: next :: .int .i64 b :: .int .i64 t :: .int .i64 v :: more).toArray ty (0, 0)
def hubO (room top : Int) (last : Bool) (rank at_ : Int) : Obj := .cells #[.int .i64 room, .int .i64 top, .bool last, .int .i64 rank, .int .i64 at_] 109 (0, 0)

/-- The blocks around an access. -/
structure EK where
  k : DK
  bt : Nat
  bh : Nat
  gc : Nat
  oc : Nat
  gs : Nat
  os : Nat

def Env (q : EK) (us : Bool) (ws : List Int) (log : List Acc) (task hub : Obj) (cs ss : Array Value) (S : Hp) : Prop :=
  q.k.cv = .pointer (some ⟨q.gc, q.oc, none⟩) ∧ q.k.tv = .pointer (some ⟨q.gs, q.os, none⟩) ∧ q.oc + 6 < cs.size ∧ q.os + 1 < ss.size ∧
  ∃ Sd, DeskAt q.k us (ws.map un) log Sd ∧ S = Sd + (pt q.bt task + (pt q.bh hub + (pt q.gc (.cells cs 66 (0, 0)) + pt q.gs (.cells ss 137 (0, 0)))))

theorem Env.tcell {W w : World} {q : EK} {us : Bool} {ws : List Int} {log : List Acc} {ty : TypeId} {cells : Array Value} {hub : Obj} {cs ss : Array Value} {S F : Hp}
    (hS : Env q us ws log (.cells cells ty (0, 0)) hub cs ss S) (h : Holds W w (S + F)) : (∀ i, w.cell? ⟨q.bt, i, none⟩ = cells[i]?) ∧ (∀ i, w.frozen? ⟨q.bt, i, none⟩ = false) ∧ q.bt < w.heap.size := by
  obtain ⟨_, _, _, _, Sd, _, rfl⟩ := hS
  have h1 := h.of_eq (show _ = pt q.bt (.cells cells ty (0, 0)) + (Sd + (pt q.bh hub + (pt q.gc (.cells cs 66 (0, 0)) + pt q.gs (.cells ss 137 (0, 0)))) + F) from by ac_rfl)
  exact ⟨fun i => h1.cell i, fun i => h1.free i, h1.lt⟩
theorem Env.hcell {W w : World} {q : EK} {us : Bool} {ws : List Int} {log : List Acc} {task : Obj} {room top rank at_ : Int} {last : Bool} {cs ss : Array Value} {S F : Hp}
    (hS : Env q us ws log task (hubO room top last rank at_) cs ss S) (h : Holds W w (S + F)) :
    w.cell? ⟨q.bh, 0, none⟩ = some (.int .i64 room) ∧ w.cell? ⟨q.bh, 1, none⟩ = some (.int .i64 top) ∧ w.cell? ⟨q.bh, 2, none⟩ = some (.bool last) ∧ w.cell? ⟨q.bh, 3, none⟩ = some (.int .i64 rank) ∧ w.cell? ⟨q.bh, 4, none⟩ = some (.int .i64 at_) := by
  obtain ⟨_, _, _, _, Sd, _, rfl⟩ := hS
  have h1 := h.of_eq (show _ = pt q.bh (hubO room top last rank at_) + (Sd + (pt q.bt task + (pt q.gc (.cells cs 66 (0, 0)) + pt q.gs (.cells ss 137 (0, 0)))) + F) from by ac_rfl)
  unfold hubO at h1
  refine ⟨?_, ?_, ?_, ?_, ?_⟩ <;> (rw [h1.cell]; rfl)
/-- A store into the task's block. -/
theorem Env.tset {W w : World} {q : EK} {us : Bool} {ws : List Int} {log : List Acc} {ty : TypeId} {cells : Array Value} {hub : Obj} {cs ss : Array Value} {S F : Hp}
    (hS : Env q us ws log (.cells cells ty (0, 0)) hub cs ss S) (h : Holds W w (S + F)) (i : Nat) (v : Value) :
    ∃ S', Env q us ws log (.cells (cells.setIfInBounds i v) ty (0, 0)) hub cs ss S' ∧ Holds W (w.setCell ⟨q.bt, i, none⟩ v) (S' + F) := by
  obtain ⟨a1, a2, a3, a4, Sd, hd, rfl⟩ := hS
  have h1 := h.of_eq (show _ = pt q.bt (.cells cells ty (0, 0)) + (Sd + (pt q.bh hub + (pt q.gc (.cells cs 66 (0, 0)) + pt q.gs (.cells ss 137 (0, 0)))) + F) from by ac_rfl)
  exact ⟨_, ⟨a1, a2, a3, a4, Sd, hd, rfl⟩, (h1.set i v).of_eq (by ac_rfl)⟩
/-- A store into the hub's block. -/
theorem Env.hset {W w : World} {q : EK} {us : Bool} {ws : List Int} {log : List Acc} {ty : TypeId} {cells : Array Value} {task : Obj} {cs ss : Array Value} {S F : Hp}
    (hS : Env q us ws log task (.cells cells ty (0, 0)) cs ss S) (h : Holds W w (S + F)) (i : Nat) (v : Value) :
    ∃ S', Env q us ws log task (.cells (cells.setIfInBounds i v) ty (0, 0)) cs ss S' ∧ Holds W (w.setCell ⟨q.bh, i, none⟩ v) (S' + F) := by
  obtain ⟨a1, a2, a3, a4, Sd, hd, rfl⟩ := hS
  have h1 := h.of_eq (show _ = pt q.bh (.cells cells ty (0, 0)) + (Sd + (pt q.bt task + (pt q.gc (.cells cs 66 (0, 0)) + pt q.gs (.cells ss 137 (0, 0)))) + F) from by ac_rfl)
  exact ⟨_, ⟨a1, a2, a3, a4, Sd, hd, rfl⟩, (h1.set i v).of_eq (by ac_rfl)⟩
theorem Env.hfree {W w : World} {q : EK} {us : Bool} {ws : List Int} {log : List Acc} {ty : TypeId} {cells : Array Value} {task : Obj} {cs ss : Array Value} {S F : Hp}
    (hS : Env q us ws log task (.cells cells ty (0, 0)) cs ss S) (h : Holds W w (S + F)) : (∀ i, w.frozen? ⟨q.bh, i, none⟩ = false) ∧ q.bh ≠ q.bt := by
  obtain ⟨a1, a2, a3, a4, Sd, hd, rfl⟩ := hS
  have h1 := h.of_eq (show _ = pt q.bh (.cells cells ty (0, 0)) + (pt q.bt task + (Sd + ((pt q.gc (.cells cs 66 (0, 0)) + pt q.gs (.cells ss 137 (0, 0)))) + F)) from by ac_rfl)
  exact ⟨fun i => h1.free i, h1.ne⟩

def EPost (W : World) (q : EK) (us : Bool) (ws : List Int) (log : List Acc) (task hub : Obj) (cs ss : Array Value) (F : Hp) (r : Value) (e : Ending) (w' : World) : Prop :=
  e = .returned r ∧ ∃ S', Env q us ws log task hub cs ss S' ∧ Holds W w' (S' + F)

section
variable (W w : World) (q : EK) (ws : List Int) (log : List Acc) (task hub : Obj) (cs ss : Array Value) (S F : Hp)

theorem e_load (addr : Int) (g0 : 0 ≤ addr) (g1 : addr < ws.length) (hb : log.length < 1048576) (hS : Env q false ws log task hub cs ss S) (h : Holds W w (S + F)) :
    Calls Try.prog 147 #[.pointer (some ⟨q.k.bd, 0, none⟩), .int .i64 addr] w
      (EPost W q true ws (log ++ [⟨q.k.nw, q.k.th, 1, addr, 0, 0, un (wd ws addr.toNat)⟩]) task hub cs ss F (.int .u64 (un (wd ws addr.toNat)))) := by
  obtain ⟨a1, a2, a3, a4, Sd, hd, rfl⟩ := hS
  refine (desk_load W w q.k (ws.map un) log Sd _ addr g0 (by simpa using g1) hb hd (h.of_eq (Hp.add_assoc _ _ _))).mono ?_
  rintro e w' ⟨rfl, S2, hd2, h2⟩
  rw [wd_map] at *
  exact ⟨rfl, _, ⟨a1, a2, a3, a4, S2, hd2, rfl⟩, h2.of_eq (Hp.add_assoc _ _ _).symm⟩

theorem e_store (addr v : Int) (g0 : 0 ≤ addr) (g1 : addr < ws.length) (hb : log.length < 1048576) (hS : Env q false ws log task hub cs ss S) (h : Holds W w (S + F)) :
    Calls Try.prog 159 #[.pointer (some ⟨q.k.bd, 0, none⟩), .int .i64 addr, .int .u64 (un v)] w
      (EPost W q true (ws.set addr.toNat v) (log ++ [⟨q.k.nw, q.k.th, 2, addr, 0, un v, 0⟩]) task hub cs ss F (.tuple #[])) := by
  obtain ⟨a1, a2, a3, a4, Sd, hd, rfl⟩ := hS
  refine (desk_store W w q.k (ws.map un) log Sd _ addr (un v) g0 (by simpa using g1) hb hd (h.of_eq (Hp.add_assoc _ _ _))).mono ?_
  rintro e w' ⟨rfl, S2, hd2, h2⟩
  rw [← List.map_set] at hd2
  exact ⟨rfl, _, ⟨a1, a2, a3, a4, S2, hd2, rfl⟩, h2.of_eq (Hp.add_assoc _ _ _).symm⟩

theorem e_swap (addr x y : Int) (g0 : 0 ≤ addr) (g1 : addr < ws.length) (hl : I64 (wd ws addr.toNat)) (hx : I64 x) (hb : log.length < 1048576) (hS : Env q false ws log task hub cs ss S) (h : Holds W w (S + F)) :
    Calls Try.prog 172 #[.pointer (some ⟨q.k.bd, 0, none⟩), .int .i64 addr, .int .u64 (un x), .int .u64 (un y)] w
      (EPost W q true (swp ws addr.toNat x y) (log ++ [⟨q.k.nw, q.k.th, 3, addr, un x, un y, un (wd ws addr.toNat)⟩]) task hub cs ss F (.bool (swb ws addr.toNat x))) := by
  obtain ⟨a1, a2, a3, a4, Sd, hd, rfl⟩ := hS
  refine (desk_swap W w q.k (ws.map un) log Sd _ addr (un x) (un y) g0 (by simpa using g1) hb hd (h.of_eq (Hp.add_assoc _ _ _))).mono ?_
  rintro e w' ⟨rfl, S2, hd2, h2⟩
  rw [swp_map _ _ _ _ hl hx, wd_map] at hd2
  rw [swb_map _ _ _ hl hx]
  exact ⟨rfl, _, ⟨a1, a2, a3, a4, S2, hd2, rfl⟩, h2.of_eq (Hp.add_assoc _ _ _).symm⟩

theorem e_now (us : Bool) (hS : Env q us ws log task hub cs ss S) (h : Holds W w (S + F)) :
    Calls Try.prog 152 #[.pointer (some ⟨q.k.bd, 0, none⟩)] w fun e w' => w = w' ∧ e = .returned (.int .i64 q.k.nw) := by
  obtain ⟨a1, a2, a3, a4, Sd, hd, rfl⟩ := hS
  exact desk_now W w q.k us (ws.map un) log Sd _ hd (h.of_eq (Hp.add_assoc _ _ _))

theorem e_point (us : Bool) (p : Int) (hS : Env q us ws log task hub cs ss S) (h : Holds W w (S + F)) :
    Calls Try.prog 151 #[.pointer (some ⟨q.k.bd, 0, none⟩), .int .i64 p] w
      (EPost W q us ws log task hub (cs.setIfInBounds (q.oc + 6) (.int .i64 p)) ss F (.tuple #[])) := by
  obtain ⟨a1, a2, a3, a4, Sd, hd, rfl⟩ := hS
  refine (desk_point W w q.k us (ws.map un) log Sd (pt q.bt task + (pt q.bh hub + pt q.gs (.cells ss 137 (0, 0))) + F) q.gc q.oc cs p hd a1 a3 (h.of_eq (by ac_rfl))).mono ?_
  rintro e w' ⟨rfl, h2⟩
  exact ⟨rfl, _, ⟨a1, a2, by simpa using a3, a4, Sd, hd, rfl⟩, h2.of_eq (by ac_rfl)⟩

theorem e_answer (us : Bool) (x y : Int) (hS : Env q us ws log task hub cs ss S) (h : Holds W w (S + F)) :
    Calls Try.prog 153 #[.pointer (some ⟨q.k.bd, 0, none⟩), .int .i64 x, .int .i64 y] w
      (EPost W q us ws log task hub cs ((ss.setIfInBounds q.os (.int .i64 x)).setIfInBounds (q.os + 1) (.int .i64 y)) F (.bool true)) := by
  obtain ⟨a1, a2, a3, a4, Sd, hd, rfl⟩ := hS
  have h0 := h.of_eq (show _ = Sd + (pt q.gs (.cells ss 137 (0, 0)) + (pt q.bt task + (pt q.bh hub + pt q.gc (.cells cs 66 (0, 0))) + F)) from by ac_rfl)
  go_enter Try.func153, Try.ntmps153
  go_wp2_with fail
  refine (desk_answer W w q.k us (ws.map un) log Sd _ q.gs q.os ss x y hd a2 a4 h0).mono ?_
  rintro e w' ⟨rfl, h2⟩
  go_wp2_with fail
  go_ret
  exact ⟨rfl, _, ⟨a1, a2, a3, by simpa using a4, Sd, hd, rfl⟩, h2.of_eq (by ac_rfl)⟩
end

theorem cell_at (w : World) (bt bh : Nat) (i room : Int) (g0 : 0 ≤ i) (g1 : i ≤ 1000000000) (g2 : 1 ≤ room) (g3 : room ≤ 256) (c0 : w.cell? ⟨bt, 0, none⟩ = some (.pointer (some ⟨bh, 0, none⟩))) (c1 : w.cell? ⟨bh, 0, none⟩ = some (.int .i64 room)) :
    Calls Try.prog 145 #[.pointer (some ⟨bt, 0, none⟩), .int .i64 i] w fun e w' => w = w' ∧ e = .returned (.int .i64 (2 + i % room)) := by
  have m0 : 0 ≤ i % room := Int.emod_nonneg _ (by omega)
  have m1 : i % room < room := Int.emod_lt_of_pos _ (by omega)
  have hne : ¬ room = 0 := by omega
  go_enter Try.func145, Try.ntmps145
  go_wp2
  go_ret
  exact ⟨rfl, rfl⟩

end Go.Proofs.Ythifeaigdobonaa
