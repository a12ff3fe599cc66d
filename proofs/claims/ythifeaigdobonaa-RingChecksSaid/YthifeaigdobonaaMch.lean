/- The machine as a list of calls, a list of seats, words and a log; a step of it. -/
import Derived.Test.YthifeaigdobonaaRow
import Derived.Test.YthifeaigdobonaaStp
namespace Go.Proofs.Ythifeaigdobonaa
open Go.RowKit

structure ACall where
  thread : Int
  op : Int
  arg : Int
  data : Int
  start : Int
  stop : Int
  point : Int
  ak : Int
  av : Int
def callNew (th op arg data now : Int) : ACall := { thread := th, op := op, arg := arg, data := data, start := now, stop := -1, point := -1, ak := 0, av := 0 }
def encCall (c : ACall) : List Value := [.int .i64 c.thread, .int .i64 c.op, .int .i64 c.arg, .int .i64 c.data, .int .i64 c.start, .int .i64 c.stop, .int .i64 c.point, .int .i64 c.ak, .int .i64 c.av]
structure ASeat where
  task : Value
  ready : Bool
  last : Int
  ak : Int
  av : Int
def encSeat (s : ASeat) : List Value := [s.task, .bool s.ready, .int .i64 s.last, .int .i64 s.ak, .int .i64 s.av]
theorem encCall_len (c : ACall) : (encCall c).length = 9 := rfl
theorem encSeat_len (s : ASeat) : (encSeat s).length = 5 := rfl

def MachAt (bM bm : Nat) (kit : Value) (words : List Int) (log : List Acc) (moves : Int) (calls : List ACall) (seats : List ASeat) (S : Hp) : Prop :=
  ∃ th nw mv us cv sv Sc Ss Sm, RowAt 66 9 cv calls.length (rows encCall calls) Sc ∧ RowAt 137 5 sv seats.length (rows encSeat seats) Ss ∧ MemR bm words log mv Sm ∧
    S = pt bM (machO bm th nw nilp nilp us (.slice none 0 0) kit sv moves cv) + (Sc + (Ss + Sm))

/-- What a task's step does to the call and to the seat. -/
def ptOf (p : Option Int) (c : ACall) : ACall := { c with point := p.getD c.point }
def anOf (a : Option (Int × Int)) (s : ASeat) : ASeat := { s with ak := (a.map Prod.fst).getD s.ak, av := (a.map Prod.snd).getD s.av }
def callAfter (over : Bool) (now : Int) (s : ASeat) (c : ACall) : ACall := if over then { c with stop := now, ak := s.ak, av := s.av } else c
def seatAfter (over : Bool) (s : ASeat) : ASeat := { s with ready := true, task := if over then .nilIface else s.task }

theorem get_set {α : Type} {l : List α} {i : Nat} {x : α} (hi : l[i]? = some x) (y : α) : (l.set i y)[i]? = some y := by
  have hlt : i < l.length := (List.getElem?_eq_some_iff.1 hi).1
  simp [hlt]

theorem setPt_arr {calls : List ACall} {rest : List Value} {i : Nat} {c : ACall} (hi : calls[i]? = some c) (p : Option Int) : setPt (arr encCall calls rest) (i * 9) p = arr encCall (calls.set i (ptOf p c)) rest := by
  cases p with
  | none =>
    have : calls.set i (ptOf none c) = calls := by
      obtain ⟨hlt, rfl⟩ := List.getElem?_eq_some_iff.1 hi
      exact List.set_getElem_self hlt
    rw [this]; rfl
  | some p => exact arr_set encCall_len hi (by decide) rfl
theorem setAn_arr {seats : List ASeat} {rest : List Value} {i : Nat} {s : ASeat} (hi : seats[i]? = some s) (a : Option (Int × Int)) : setAn (arr encSeat seats rest) (i * 5 + 3) a = arr encSeat (seats.set i (anOf a s)) rest := by
  cases a with
  | none =>
    have : seats.set i (anOf none s) = seats := by
      obtain ⟨hlt, rfl⟩ := List.getElem?_eq_some_iff.1 hi
      exact List.set_getElem_self hlt
    rw [this]; rfl
  | some a =>
    simp only [setAn]
    have h1 := arr_set (rest := rest) (v := .int .i64 a.1) (y := { s with ak := a.1 }) encSeat_len hi (j := 3) (by decide) rfl
    have h2 := arr_set (rest := rest) (v := .int .i64 a.2) (y := anOf (some a) s) encSeat_len (get_set hi { s with ak := a.1 }) (j := 4) (by decide) rfl
    rw [List.set_set] at h2
    rw [h1, show i * 5 + 3 + 1 = i * 5 + 4 from by omega, h2]

def ListPost (W : World) (bM bm : Nat) (kit : Value) (words : List Int) (log : List Acc) (moves : Int) (calls : List ACall) (seats : List ASeat) (G F : Hp) (r : Value) (e : Ending) (w' : World) : Prop :=
  e = .returned r ∧ ∃ S', MachAt bM bm kit words log moves calls seats S' ∧ Holds W w' (S' + (G + F))

theorem step_list (W w : World) (bM bm : Nat) (kit : Value) (words : List Int) (log : List Acc) (moves : Int) (calls : List ACall) (seats : List ASeat) (S G0 F : Hp) (t last : Nat) (now : Int) (s : ASeat) (c : ACall) (T : TypeId) (bt : Nat)
    (hs : seats[t]? = some s) (hc : calls[last]? = some c) (htask : s.task = .iface T (.pointer (some ⟨bt, 0, none⟩))) (hlast : s.last = last) (hn : seats.length ≤ 1000) (hnc : calls.length ≤ 100000)
    (G1 G2 : Hp) (words' : List Int) (log' : List Acc) (p : Option Int) (a : Option (Int × Int)) (over : Bool)
    (hT : TaskDoes W T bt t now words log G0 G1 words' log' G2 p a over s.ready)
    (hS : MachAt bM bm kit words log moves calls seats S) (h : Holds W w (S + (G0 + F))) :
    Calls Try.prog 55 #[.pointer (some ⟨bM, 0, none⟩), .int .i64 (t : Int), .int .i64 now] w
      (ListPost W bM bm kit words' log' moves (calls.set last (callAfter over now (anOf a s) (ptOf p c))) (seats.set t (seatAfter over (anOf a s))) G2 F (.tuple #[])) := by
  obtain ⟨th, nw, mv, us, cv, sv, Sc, Ss, Sm, hcv, hsv, hm, rfl⟩ := hS
  have htl : t < seats.length := (List.getElem?_eq_some_iff.1 hs).1
  have hcl : last < calls.length := (List.getElem?_eq_some_iff.1 hc).1
  obtain ⟨gc, capc, restc, rfl, rfl, hc'⟩ := row_open hcv (by omega)
  obtain ⟨gs, cap, rests, rfl, rfl, hs'⟩ := row_open hsv (by omega)
  have s0 : (arr encSeat seats rests)[t * 5]? = some (.iface T (.pointer (some ⟨bt, 0, none⟩))) := by
    have := arr_get encSeat_len (rest := rests) hs (j := 0) (by decide); rw [← htask]; simpa [encSeat] using this
  have s1 : (arr encSeat seats rests)[t * 5 + 1]? = some (.bool s.ready) := by rw [arr_get encSeat_len hs (by decide)]; rfl
  have s2 : (arr encSeat seats rests)[t * 5 + 2]? = some (.int .i64 last) := by rw [arr_get encSeat_len hs (by decide), ← hlast]; rfl
  have z1 : last * 9 + 8 < (arr encCall calls restc).size := arr_size encCall_len hcl (by decide)
  have z2 : t * 5 + 4 < (arr encSeat seats rests).size := arr_size encSeat_len htl (by decide)
  have h1 := h.of_eq (show _ = pt bM (machO bm th nw nilp nilp us (.slice none 0 0) kit (.slice (some ⟨gs, 0, none⟩) seats.length cap) moves (.slice (some ⟨gc, 0, none⟩) calls.length capc)) + (Sm + (pt gc (.cells (arr encCall calls restc) 66 (0, 0)) + (pt gs (.cells (arr encSeat seats rests) 137 (0, 0)) + (G0 + F)))) from by ac_rfl)
  -- the rows behind the step
  have e1 := setPt_arr (rest := restc) hc p
  have r1 : (arr encSeat seats rests).setIfInBounds (t * 5 + 1) (.bool true) = arr encSeat (seats.set t { s with ready := true }) rests := arr_set encSeat_len hs (by decide) rfl
  have r2 := setAn_arr (rest := rests) (get_set hs { s with ready := true }) a
  rw [List.set_set] at r2
  have r1' : s.ready = true → arr encSeat seats rests = arr encSeat (seats.set t { s with ready := true }) rests := by
    intro hr
    have : ({ s with ready := true } : ASeat) = s := by cases s; simp_all
    rw [this]
    obtain ⟨hlt, rfl⟩ := List.getElem?_eq_some_iff.1 hs
    rw [List.set_getElem_self]
  have done : ∀ (cs ss : Array Value) (e : Ending) (w' : World), cs = arr encCall (calls.set last (callAfter over now (anOf a s) (ptOf p c))) restc → ss = arr encSeat (seats.set t (seatAfter over (anOf a s))) rests →
      StepPost W bM bm gc gs t seats.length cap calls.length capc now moves (.slice none 0 0) kit words' log' cs ss G2 F e w' →
      ListPost W bM bm kit words' log' moves (calls.set last (callAfter over now (anOf a s) (ptOf p c))) (seats.set t (seatAfter over (anOf a s))) G2 F (.tuple #[]) e w' := by
    rintro cs ss e w' rfl rfl ⟨rfl, Sm', hm', h'⟩
    exact ⟨rfl, _, ⟨_, _, _, _, _, _, _, _, Sm', hc' _ (by simp) encCall_len, hs' _ (by simp) encSeat_len, hm', rfl⟩, h'.of_eq (by ac_rfl)⟩
  have last0 : (arr encSeat (seats.set t (anOf a { s with ready := true })) rests).setIfInBounds (t * 5) .nilIface = arr encSeat (seats.set t (seatAfter true (anOf a s))) rests := by
    have := arr_set (rest := rests) (y := seatAfter true (anOf a s)) (v := .nilIface) encSeat_len (get_set hs (anOf a { s with ready := true })) (j := 0) (by decide) rfl
    rwa [List.set_set] at this
  have an : ∀ j, j < 5 → (arr encSeat (seats.set t (anOf a { s with ready := true })) rests)[t * 5 + j]? = (encSeat (anOf a { s with ready := true }))[j]? := fun j hj => arr_get encSeat_len (get_set hs _) hj
  have fin : (((arr encCall (calls.set last (ptOf p c)) restc).setIfInBounds (last * 9 + 5) (.int .i64 now)).setIfInBounds (last * 9 + 7) (.int .i64 (anOf a s).ak)).setIfInBounds (last * 9 + 8) (.int .i64 (anOf a s).av) =
      arr encCall (calls.set last (callAfter true now (anOf a s) (ptOf p c))) restc := by
    rw [arr_set (y := { ptOf p c with stop := now }) encCall_len (get_set hc _) (by decide) rfl, List.set_set,
      arr_set (y := { ptOf p c with stop := now, ak := (anOf a s).ak }) encCall_len (get_set hc _) (by decide) rfl, List.set_set,
      arr_set (y := callAfter true now (anOf a s) (ptOf p c)) encCall_len (get_set hc _) (by decide) rfl, List.set_set]
  cases hr : s.ready <;> cases over <;> rw [hr] at hT s1
  · refine (step_new_goes W w bM bm gc gs t seats.length cap last calls.length capc th nw mv now moves us (.slice none 0 0) kit words log Sm G0 F _ _ T bt htl hcl hn hnc z1 z2 s0 s1 s2 G1 G2 words' log' p a hT hm h1).mono (fun e w' hp => done _ _ e w' e1 ?_ hp)
    rw [r1, r2]; rfl
  · refine (step_new_over W w bM bm gc gs t seats.length cap last calls.length capc th nw mv now moves us (.slice none 0 0) kit words log Sm G0 F _ _ T bt htl hcl hn hnc z1 z2 s0 s1 s2 G1 G2 words' log' p a (anOf a s).ak (anOf a s).av ?_ ?_ hT hm h1).mono (fun e w' hp => done _ _ e w' ?_ ?_ hp)
    · rw [r1, r2, an 3 (by decide)]; rfl
    · rw [r1, r2, an 4 (by decide)]; rfl
    · rw [e1, fin]
    · rw [r1, r2, last0]
  · refine (step_on_goes W w bM bm gc gs t seats.length cap last calls.length capc th nw mv now moves us (.slice none 0 0) kit words log Sm G0 F _ _ T bt htl hcl hn hnc z1 z2 s0 s1 s2 G1 G2 words' log' p a hT hm h1).mono (fun e w' hp => done _ _ e w' e1 ?_ hp)
    rw [r1' hr, r2]; rfl
  · refine (step_on_over W w bM bm gc gs t seats.length cap last calls.length capc th nw mv now moves us (.slice none 0 0) kit words log Sm G0 F _ _ T bt htl hcl hn hnc z1 z2 s0 s1 s2 G1 G2 words' log' p a (anOf a s).ak (anOf a s).av ?_ ?_ hT hm h1).mono (fun e w' hp => done _ _ e w' ?_ ?_ hp)
    · rw [r1' hr, r2, an 3 (by decide)]; rfl
    · rw [r1' hr, r2, an 4 (by decide)]; rfl
    · rw [e1, fin]
    · rw [r1' hr, r2, last0]

end Go.Proofs.Ythifeaigdobonaa
