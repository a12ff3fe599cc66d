/- The desk: what a task does to the machine: Now, Load, Store, Swap, Point, Answer. -/
import Derived.Test.YthifeaigdobonaaMem
import Derived.Deep.RegionHeld3
import Derived.StillTailTactics
namespace Go.Proofs.Ythifeaigdobonaa
open Go.RowKit

/-- The machine's block: its bench, its kit, its seats, its moves, its calls. -/
def machO (bm : Nat) (th nw : Int) (cv tv : Value) (us : Bool) (sh kit seats : Value) (moves : Int) (calls : Value) : Obj :=
  .cells #[.pointer (some ⟨bm, 0, none⟩), .int .i64 th, .int .i64 nw, cv, tv, .bool us, sh, kit, seats, .int .i64 moves, calls] 134 (0, 0)
/-- The desk's block. -/
def deskO (bM : Nat) : Obj := .cells #[.pointer (some ⟨bM, 0, none⟩)] 173 (0, 0)

theorem open_at (W w : World) (bd bM bm : Nat) (th nw : Int) (cv tv sh kit seats calls : Value) (moves : Int) (a : Option Addr) (n cap : Nat) (lv av mv : Value) (fr : Nat × Nat) (F : Hp) (addr : Int) (g0 : 0 ≤ addr) (g1 : addr < n)
    (h : Holds W w (pt bd (deskO bM) + (pt bM (machO bm th nw cv tv false sh kit seats moves calls) + (pt bm (.cells #[.slice a n cap, lv, av, mv] 176 fr) + F)))) :
    Calls Try.prog 149 #[.pointer (some ⟨bd, 0, none⟩), .int .i64 addr] w fun e w' => e = .returned (.bool true) ∧
      Holds W w' (pt bd (deskO bM) + (pt bM (machO bm th nw cv tv true sh kit seats moves calls) + (pt bm (.cells #[.slice a n cap, lv, av, mv] 176 fr) + F))) := by
  have hM := h.of_eq (show _ = pt bM (machO bm th nw cv tv false sh kit seats moves calls) + (pt bd (deskO bM) + (pt bm (.cells #[.slice a n cap, lv, av, mv] 176 fr) + F)) from by ac_rfl)
  have hm := h.of_eq (show _ = pt bm (.cells #[.slice a n cap, lv, av, mv] 176 fr) + (pt bd (deskO bM) + pt bM (machO bm th nw cv tv false sh kit seats moves calls) + F) from by ac_rfl)
  have c0 : w.cell? ⟨bd, 0, none⟩ = some (.pointer (some ⟨bM, 0, none⟩)) := by unfold deskO at h; rw [h.cell]; rfl
  have c1 : w.cell? ⟨bM, 0, none⟩ = some (.pointer (some ⟨bm, 0, none⟩)) := by unfold machO at hM; rw [hM.cell]; rfl
  have c2 : w.cell? ⟨bM, 5, none⟩ = some (.bool false) := by unfold machO at hM; rw [hM.cell]; rfl
  have c3 : w.frozen? ⟨bM, 5, none⟩ = false := by unfold machO at hM; exact hM.free 5
  have k0 : ¬ addr < 0 := by omega
  go_enter Try.func149, Try.ntmps149
  go_wp2_with (go_at_call 155; go_must (refine (size_at W w bm _ lv av mv fr _ n cap a rfl hm).mono ?_; rintro e w' ⟨rfl, rfl⟩))
  go_ret
  refine ⟨rfl, ?_⟩
  unfold machO at hM ⊢
  exact (hM.set 5 (.bool true)).of_eq (by simp only [List.setIfInBounds_toArray]; ac_rfl)

/-- What stays as it is while a task makes its access: the blocks, the thread, the move, and what the machine's block holds besides. -/
structure DK where
  bd : Nat
  bM : Nat
  bm : Nat
  th : Int
  nw : Int
  cv : Value
  tv : Value
  sh : Value
  kit : Value
  seats : Value
  moves : Int
  calls : Value

def DK.mach (k : DK) (us : Bool) : Obj := machO k.bm k.th k.nw k.cv k.tv us k.sh k.kit k.seats k.moves k.calls

def DeskAt (k : DK) (us : Bool) (words : List Int) (log : List Acc) (S : Hp) : Prop :=
  ∃ Sm, MemR k.bm words log k.nw Sm ∧ S = pt k.bd (deskO k.bM) + (pt k.bM (k.mach us) + Sm)

/-- The cells of the desk and of the machine's block. -/
theorem DeskAt.cells {W w : World} {k : DK} {us : Bool} {words : List Int} {log : List Acc} {S F : Hp} (hS : DeskAt k us words log S) (h : Holds W w (S + F)) :
    w.cell? ⟨k.bd, 0, none⟩ = some (.pointer (some ⟨k.bM, 0, none⟩)) ∧ w.cell? ⟨k.bM, 0, none⟩ = some (.pointer (some ⟨k.bm, 0, none⟩)) ∧ w.cell? ⟨k.bM, 1, none⟩ = some (.int .i64 k.th) ∧
    w.cell? ⟨k.bM, 2, none⟩ = some (.int .i64 k.nw) ∧ w.cell? ⟨k.bM, 3, none⟩ = some k.cv ∧ w.cell? ⟨k.bM, 4, none⟩ = some k.tv := by
  obtain ⟨Sm, _, rfl⟩ := hS
  have h1 := h.of_eq (show _ = pt k.bd (deskO k.bM) + (pt k.bM (k.mach us) + Sm + F) from by ac_rfl)
  have h2 := h.of_eq (show _ = pt k.bM (k.mach us) + (pt k.bd (deskO k.bM) + Sm + F) from by ac_rfl)
  unfold deskO at h1
  unfold DK.mach machO at h2
  refine ⟨?_, ?_, ?_, ?_, ?_, ?_⟩ <;> first | (rw [h1.cell]; rfl) | (rw [h2.cell]; rfl)

def DeskPost (W : World) (k : DK) (words : List Int) (log : List Acc) (F : Hp) (r : Value) (e : Ending) (w' : World) : Prop :=
  e = .returned r ∧ ∃ S', DeskAt k true words log S' ∧ Holds W w' (S' + F)

theorem open_desk (W w : World) (k : DK) (words : List Int) (log : List Acc) (S F : Hp) (addr : Int) (g0 : 0 ≤ addr) (g1 : addr < words.length) (hS : DeskAt k false words log S) (h : Holds W w (S + F)) :
    Calls Try.prog 149 #[.pointer (some ⟨k.bd, 0, none⟩), .int .i64 addr] w (DeskPost W k words log F (.bool true)) := by
  obtain ⟨Sm, ⟨ahead, hal, hm⟩, rfl⟩ := hS
  have hm0 := hm
  obtain ⟨wv, lv, av, Sw, Sl, Sa, hw, hl, ha, rfl⟩ := hm
  obtain ⟨g, cap, rest, rfl, _, _, _, rfl⟩ := hw.some (by omega)
  refine (open_at W w k.bd k.bM k.bm k.th k.nw k.cv k.tv k.sh k.kit k.seats k.calls k.moves (some ⟨g, 0, none⟩) _ cap lv av (.int .i64 k.nw) (0, 0) (pt g (.cells (u64s words ++ rest).toArray 82 (0, 0)) + Sl + Sa + F) addr g0 g1 (h.of_eq ?_)).mono ?_
  · show _ = pt k.bd (deskO k.bM) + (pt k.bM (k.mach false) + _)
    ac_rfl
  · rintro e w' ⟨rfl, h'⟩
    refine ⟨rfl, _, ⟨_, ⟨ahead, hal, hm0⟩, rfl⟩, h'.of_eq ?_⟩
    show pt k.bd (deskO k.bM) + (pt k.bM (k.mach true) + _) = _
    ac_rfl

set_option maxHeartbeats 400000 in
theorem desk_load (W w : World) (k : DK) (words : List Int) (log : List Acc) (S F : Hp) (addr : Int) (g0 : 0 ≤ addr) (g1 : addr < words.length) (hb : log.length < 1048576) (hS : DeskAt k false words log S) (h : Holds W w (S + F)) :
    Calls Try.prog 147 #[.pointer (some ⟨k.bd, 0, none⟩), .int .i64 addr] w (DeskPost W k words (log ++ [⟨k.nw, k.th, 1, addr, 0, 0, wd words addr.toNat⟩]) F (.int .u64 (wd words addr.toNat))) := by
  go_enter Try.func147, Try.ntmps147
  go_wp2_with fail
  refine (open_desk W w k words log S F addr g0 g1 hS h).mono ?_
  rintro e w1 ⟨rfl, S1, hS1, h1⟩
  obtain ⟨c0, c1, c2, _, _, _⟩ := hS1.cells h1
  obtain ⟨Sm, hm, rfl⟩ := hS1
  have hL := h1.drew.of_eq (show _ = Sm + (pt k.bd (deskO k.bM) + pt k.bM (k.mach true) + F) from by ac_rfl)
  clear h h1
  go_wp2_with fail
  go_region_held3 (fun w' => w'.cell? ⟨k.bd, 0, none⟩ = some (.pointer (some ⟨k.bM, 0, none⟩)) ∧ w'.cell? ⟨k.bM, 0, none⟩ = some (.pointer (some ⟨k.bm, 0, none⟩)) ∧ w'.cell? ⟨k.bM, 1, none⟩ = some (.int .i64 k.th)) (go_keep)
    ((go_at_call 150; refine (load_r W _ k.bm words log k.nw k.th addr Sm _ hb g0 g1 hm hL).mono ?_; rintro e w2 ⟨rfl, S2, hS2, h2⟩; obtain ⟨q0, q1, q2, _, _, _⟩ := (show DeskAt k true _ _ (pt k.bd (deskO k.bM) + (pt k.bM (k.mach true) + S2)) from ⟨S2, hS2, rfl⟩).cells (h2.of_eq (show _ = _ + F from by ac_rfl))))
  go_wp2_with fail
  go_ret
  exact ⟨rfl, _, ⟨S2, hS2, rfl⟩, h2.of_eq (by ac_rfl)⟩

set_option maxHeartbeats 400000 in
theorem desk_store (W w : World) (k : DK) (words : List Int) (log : List Acc) (S F : Hp) (addr v : Int) (g0 : 0 ≤ addr) (g1 : addr < words.length) (hb : log.length < 1048576) (hS : DeskAt k false words log S) (h : Holds W w (S + F)) :
    Calls Try.prog 159 #[.pointer (some ⟨k.bd, 0, none⟩), .int .i64 addr, .int .u64 v] w (DeskPost W k (words.set addr.toNat v) (log ++ [⟨k.nw, k.th, 2, addr, 0, v, 0⟩]) F (.tuple #[])) := by
  go_enter Try.func159, Try.ntmps159
  go_wp2_with fail
  refine (open_desk W w k words log S F addr g0 g1 hS h).mono ?_
  rintro e w1 ⟨rfl, S1, hS1, h1⟩
  obtain ⟨c0, c1, c2, _, _, _⟩ := hS1.cells h1
  obtain ⟨Sm, hm, rfl⟩ := hS1
  have hL := h1.drew.of_eq (show _ = Sm + (pt k.bd (deskO k.bM) + pt k.bM (k.mach true) + F) from by ac_rfl)
  clear h h1
  go_wp2_with fail
  go_region_held3 (fun w' => w'.cell? ⟨k.bd, 0, none⟩ = some (.pointer (some ⟨k.bM, 0, none⟩)) ∧ w'.cell? ⟨k.bM, 0, none⟩ = some (.pointer (some ⟨k.bm, 0, none⟩)) ∧ w'.cell? ⟨k.bM, 1, none⟩ = some (.int .i64 k.th)) (go_keep)
    ((go_at_call 162; refine (store_r W _ k.bm words log k.nw k.th addr v Sm _ hb g0 g1 hm hL).mono ?_; rintro e w2 ⟨rfl, S2, hS2, h2⟩; obtain ⟨q0, q1, q2, _, _, _⟩ := (show DeskAt k true _ _ (pt k.bd (deskO k.bM) + (pt k.bM (k.mach true) + S2)) from ⟨S2, hS2, rfl⟩).cells (h2.of_eq (show _ = _ + F from by ac_rfl))))
  go_wp2_with fail
  go_end0
  exact ⟨rfl, _, ⟨S2, hS2, rfl⟩, h2.of_eq (by ac_rfl)⟩

set_option maxHeartbeats 400000 in
theorem desk_swap (W w : World) (k : DK) (words : List Int) (log : List Acc) (S F : Hp) (addr old v : Int) (g0 : 0 ≤ addr) (g1 : addr < words.length) (hb : log.length < 1048576) (hS : DeskAt k false words log S) (h : Holds W w (S + F)) :
    Calls Try.prog 172 #[.pointer (some ⟨k.bd, 0, none⟩), .int .i64 addr, .int .u64 old, .int .u64 v] w (DeskPost W k (swp words addr.toNat old v) (log ++ [⟨k.nw, k.th, 3, addr, old, v, wd words addr.toNat⟩]) F (.bool (swb words addr.toNat old))) := by
  go_enter Try.func172, Try.ntmps172
  go_wp2_with fail
  refine (open_desk W w k words log S F addr g0 g1 hS h).mono ?_
  rintro e w1 ⟨rfl, S1, hS1, h1⟩
  obtain ⟨c0, c1, c2, _, _, _⟩ := hS1.cells h1
  obtain ⟨Sm, hm, rfl⟩ := hS1
  have hL := h1.drew.of_eq (show _ = Sm + (pt k.bd (deskO k.bM) + pt k.bM (k.mach true) + F) from by ac_rfl)
  clear h h1
  go_wp2_with fail
  go_region_held3 (fun w' => w'.cell? ⟨k.bd, 0, none⟩ = some (.pointer (some ⟨k.bM, 0, none⟩)) ∧ w'.cell? ⟨k.bM, 0, none⟩ = some (.pointer (some ⟨k.bm, 0, none⟩)) ∧ w'.cell? ⟨k.bM, 1, none⟩ = some (.int .i64 k.th)) (go_keep)
    ((go_at_call 173; refine (swap_r W _ k.bm words log k.nw k.th addr old v Sm _ hb g0 g1 hm hL).mono ?_; rintro e w2 ⟨rfl, S2, hS2, h2⟩; obtain ⟨q0, q1, q2, _, _, _⟩ := (show DeskAt k true _ _ (pt k.bd (deskO k.bM) + (pt k.bM (k.mach true) + S2)) from ⟨S2, hS2, rfl⟩).cells (h2.of_eq (show _ = _ + F from by ac_rfl))))
  go_wp2_with fail
  go_ret
  exact ⟨rfl, _, ⟨S2, hS2, rfl⟩, h2.of_eq (by ac_rfl)⟩

theorem desk_now (W w : World) (k : DK) (us : Bool) (words : List Int) (log : List Acc) (S F : Hp) (hS : DeskAt k us words log S) (h : Holds W w (S + F)) :
    Calls Try.prog 152 #[.pointer (some ⟨k.bd, 0, none⟩)] w fun e w' => w = w' ∧ e = .returned (.int .i64 k.nw) := by
  obtain ⟨c0, _, _, c3, _, _⟩ := hS.cells h
  go_enter Try.func152, Try.ntmps152
  go_wp2
  go_ret
  exact ⟨rfl, rfl⟩

/-- The desk's Point, where a call is told: its seventh cell. -/
theorem desk_point (W w : World) (k : DK) (us : Bool) (words : List Int) (log : List Acc) (S F : Hp) (gc o : Nat) (cs : Array Value) (p : Int) (hS : DeskAt k us words log S)
    (hc : k.cv = .pointer (some ⟨gc, o, none⟩)) (ho : o + 6 < cs.size) (h : Holds W w (S + (pt gc (.cells cs 66 (0, 0)) + F))) :
    Calls Try.prog 151 #[.pointer (some ⟨k.bd, 0, none⟩), .int .i64 p] w fun e w' => e = .returned (.tuple #[]) ∧
      Holds W w' (S + (pt gc (.cells (cs.setIfInBounds (o + 6) (.int .i64 p)) 66 (0, 0)) + F)) := by
  obtain ⟨c0, _, _, _, c4, _⟩ := hS.cells h
  rw [hc] at c4
  have h1 := h.of_eq (show _ = pt gc (.cells cs 66 (0, 0)) + (S + F) from by ac_rfl)
  have c5 : w.cell? ⟨gc, o + 6, none⟩ = some (cs[o + 6]) := by rw [h1.cell]; simp [ho]
  have c6 : w.frozen? ⟨gc, o + 6, none⟩ = false := h1.free _
  go_enter Try.func151, Try.ntmps151
  go_wp2
  go_end0
  exact ⟨rfl, (h1.set (o + 6) (.int .i64 p)).of_eq (by ac_rfl)⟩

/-- The desk's Answer, where an answer is told: its two cells. -/
theorem desk_answer (W w : World) (k : DK) (us : Bool) (words : List Int) (log : List Acc) (S F : Hp) (gs o : Nat) (cs : Array Value) (x y : Int) (hS : DeskAt k us words log S)
    (hc : k.tv = .pointer (some ⟨gs, o, none⟩)) (ho : o + 1 < cs.size) (h : Holds W w (S + (pt gs (.cells cs 137 (0, 0)) + F))) :
    Calls Try.prog 158 #[.pointer (some ⟨k.bd, 0, none⟩), .agg #[.int .i64 x, .int .i64 y]] w fun e w' => e = .returned (.tuple #[]) ∧
      Holds W w' (S + (pt gs (.cells ((cs.setIfInBounds o (.int .i64 x)).setIfInBounds (o + 1) (.int .i64 y)) 137 (0, 0)) + F)) := by
  obtain ⟨c0, _, _, _, _, c4⟩ := hS.cells h
  rw [hc] at c4
  have h1 := h.of_eq (show _ = pt gs (.cells cs 137 (0, 0)) + (S + F) from by ac_rfl)
  have c5 : w.cell? ⟨gs, o, none⟩ = some (cs[o]) := by rw [h1.cell]; simp [show o < cs.size from by omega]
  have c5' : w.cell? ⟨gs, o + 1, none⟩ = some (cs[o + 1]) := by rw [h1.cell]; simp [ho]
  have c6 : w.frozen? ⟨gs, o, none⟩ = false := h1.free _
  have c6' : w.frozen? ⟨gs, o + 1, none⟩ = false := h1.free _
  have hlt := h1.lt
  have hlt2 : k.bd < w.heap.size := World.block_lt_of_cell? w _ c0
  have hlt3 : k.bM < w.heap.size := World.block_lt_of_cell? w _ c4
  go_enter Try.func158, Try.ntmps158
  go_wp2
  go_region
  go_end0
  refine ⟨rfl, ?_⟩
  exact ((((h1.set o (.int .i64 x)).set (o + 1) (.int .i64 y)).alloc _).right.drew).of_eq (by ac_rfl)

end Go.Proofs.Ythifeaigdobonaa
