/- The program's machine against the plain machine DM: what the heap holds, and that a move keeps it. -/
import Derived.Test.YthifeaigdobonaaPrd
import Derived.Test.YthifeaigdobonaaMkr
import Derived.Test.YthifeaigdobonaaMob
namespace Go.Proofs.Ythifeaigdobonaa
open Go.RowKit DM

def oH : Option (Nat × Obj) → Hp
  | none => emp
  | some p => pt p.1 p.2
def sumT : List (Option (Nat × Obj)) → Hp
  | [] => emp
  | b :: l => oH b + sumT l

theorem sumT_set : ∀ (l : List (Option (Nat × Obj))) (t : Nat) (b : Option (Nat × Obj)), t < l.length → sumT (l.set t b) = oH b + sumT (l.set t none)
  | [], _, _, h => by simp at h
  | x :: l, 0, b, _ => by show oH b + sumT l = oH b + (emp + sumT l); rw [Hp.emp_add]
  | x :: l, t + 1, b, h => by
    have ih := sumT_set l t b (by simpa using h)
    show oH x + sumT (l.set t b) = oH b + (oH x + sumT (l.set t none))
    rw [ih]; ac_rfl

theorem sumT_get {l : List (Option (Nat × Obj))} {t : Nat} {b : Option (Nat × Obj)} (h : l[t]? = some b) : sumT l = oH b + sumT (l.set t none) := by
  obtain ⟨hlt, he⟩ := List.getElem?_eq_some_iff.1 h
  have := sumT_set l t b hlt
  rw [← this, ← he, List.set_getElem_self hlt]

/-- A seat, and the block of its task, against the plain machine's thread. -/
def SeatOK (m : DM) (bh : Nat) (x : Th) (s : ASeat) (b : Option (Nat × Obj)) : Prop :=
  (x.call < 0 ∧ s.task = .nilIface ∧ b = none) ∨
  (0 ≤ x.call ∧ ∃ c bt o, m.calls[x.call.toNat]? = some c ∧ s.last = x.call ∧ s.task = .iface (tyOf c.op) (.pointer (some ⟨bt, 0, none⟩)) ∧ b = some (bt, o) ∧ TaskOK bh bt c x s.ready o)

def ents (bv : Nat) : List (Int × Value) := [(90, .func (.func 51) #[] (capsV bv)), (91, .func (.func 52) #[] (capsV bv)), (92, .func (.func 53) #[] (capsV bv))]

/-- All but the machine itself. -/
def restH (bv bh : Nat) (hub : Obj) (tb : List (Option (Nat × Obj))) : Hp := pt bv (boxO bh) + (pt bh hub + sumT tb)

def PRel (bM bm kb bv bh : Nat) (m : DM) (S : Hp) : Prop :=
  m.Inv ∧ ∃ seats tb hub Sm, seats.length = m.all.length ∧ tb.length = m.all.length ∧
    (∀ (t : Nat) (x : Th), m.all[t]? = some x → ∃ (s : ASeat) (b : Option (Nat × Obj)), seats[t]? = some s ∧ tb[t]? = some b ∧ SeatOK m bh x s b) ∧
    MachAt bM bm (.map (some kb)) (m.words.map un) m.trace m.moves m.calls seats Sm ∧ HubOK m hub ∧ S = Sm + (pt kb (kitO (ents bv)) + restH bv bh hub tb)

/-- The other threads' seats through a step of thread t's call or a begin. -/
theorem SeatOK.kept {m m' : DM} {bh : Nat} {y : Th} {s : ASeat} {b : Option (Nat × Obj)} (h : SeatOK m bh y s b)
    (hc : ∀ (i : Nat) (d : ACall), m.calls[i]? = some d → 0 ≤ y.call → i = y.call.toNat → ∃ d', m'.calls[i]? = some d' ∧ d'.op = d.op ∧ d'.arg = d.arg) : SeatOK m' bh y s b := by
  rcases h with h | ⟨h1, c, bt, o, h2, h3, h4, h5, h6⟩
  · exact .inl h
  · obtain ⟨d, hd, ho, ha⟩ := hc _ c h2 h1 rfl
    refine .inr ⟨h1, d, bt, o, hd, h3, by rw [ho]; exact h4, h5, ?_⟩
    unfold TaskOK at h6 ⊢
    rw [ho, ha]
    exact h6


theorem move_lt {m : DM} {v : Mv} (h : m.moves < 65536) : m.move v = ({ (m.move0 v).1 with moves := m.moves + 1 }, (m.move0 v).2) := by
  unfold DM.move; rw [if_neg (by omega)]

/-- A move that changes the count of moves alone. -/
theorem PRel.tick {bM bm kb bv bh : Nat} {m : DM} {seats : List ASeat} {tb : List (Option (Nat × Obj))} {hub : Obj} {Sm : Hp} (hi : Inv { m with moves := m.moves + 1 }) (h1 : seats.length = m.all.length) (h2 : tb.length = m.all.length)
    (h3 : ∀ (t : Nat) (x : Th), m.all[t]? = some x → ∃ (s : ASeat) (b : Option (Nat × Obj)), seats[t]? = some s ∧ tb[t]? = some b ∧ SeatOK m bh x s b)
    (h4 : MachAt bM bm (.map (some kb)) (m.words.map un) m.trace (m.moves + 1) m.calls seats Sm) (h5 : HubOK m hub) :
    PRel bM bm kb bv bh { m with moves := m.moves + 1 } (Sm + (pt kb (kitO (ents bv)) + restH bv bh hub tb)) := by
  refine ⟨hi, seats, tb, hub, Sm, h1, h2, fun t x hx => ?_, h4, ?_, rfl⟩
  · obtain ⟨s, b, a1, a2, a3⟩ := h3 t x hx
    exact ⟨s, b, a1, a2, a3⟩
  · obtain ⟨hl, rank, at_, a1, a2, a3, a4⟩ := h5
    exact ⟨hl, rank, at_, a1, a2, a3, a4⟩

def MPost (W : World) (bM bm kb bv bh : Nat) (m' : DM) (r : Bool) (F : Hp) (e : Ending) (w' : World) : Prop :=
  e = .returned (.bool r) ∧ ∃ S', PRel bM bm kb bv bh m' S' ∧ Holds W w' (S' + F)

section
variable (W w : World) (bM bm kb bv bh : Nat) {m : DM} {seats : List ASeat} {tb : List (Option (Nat × Obj))} {hub : Obj} {Sm : Hp} (F : Hp)

/-- A move that steps a call. -/
theorem pr_step (hi : m.Inv) (hmv : m.moves < 65536) (h1 : seats.length = m.all.length) (h2 : tb.length = m.all.length)
    (h3 : ∀ (t : Nat) (x : Th), m.all[t]? = some x → ∃ (s : ASeat) (b : Option (Nat × Obj)), seats[t]? = some s ∧ tb[t]? = some b ∧ SeatOK m bh x s b)
    (h4 : MachAt bM bm (.map (some kb)) (m.words.map un) m.trace m.moves m.calls seats Sm) (h5 : HubOK m hub) (t : Nat) (x : Th) (hx : m.all[t]? = some x) (hb : 0 ≤ x.call) (arg data : Int)
    (h : Holds W w (Sm + (pt kb (kitO (ents bv)) + restH bv bh hub tb) + F)) :
    Calls Try.prog 19 (moveArgs bM t 0 arg data) w (MPost W bM bm kb bv bh { m.step t with moves := m.moves + 1 } true F) := by
  obtain ⟨s, b, e1, e2, hs⟩ := h3 t x hx
  rcases hs with ⟨hs, _⟩ | ⟨_, c, bt, o, hc, hlast, htask, rfl, hT⟩
  · omega
  obtain ⟨o1, o2, hub2, p, a, over, x', c', hdo, ha, hcs, hca, hm', hr', hov, hgo, hH⟩ := step_out W hi hmv hx hb hc hT h5
  have hinv := hi.stepped hmv hx hb
  have hlt : t < m.all.length := (List.getElem?_eq_some_iff.1 hx).1
  have hn := hi.nth
  have hnc := hi.ncalls
  have hm0 := hi.mv
  have hop : c'.op = c.op ∧ c'.arg = c.arg := by rw [← hca s]; cases over <;> exact ⟨rfl, rfl⟩
  refine (move_step W w bM bm (.map (some kb)) (m.words.map un) m.trace m.moves m.calls seats Sm (pt bt o + pt bh hub) (pt kb (kitO (ents bv)) + (pt bv (boxO bh) + sumT (tb.set t none)) + F) arg data t s c (tyOf c.op) bt x.call.toNat e1 hc htask (by omega)
    (by omega) (by omega) (by omega) hmv hm0.1 _ _ _ _ p a over hdo h4 (h.of_eq ?_)).mono ?_
  · unfold restH; rw [sumT_get e2]; show _ = Sm + (pt bt o + pt bh hub + _); unfold oH; ac_rfl
  rintro e w' ⟨rfl, S', hM, h'⟩
  rw [hca s, ← hcs] at hM
  -- the other seats
  have keep : ∀ (y : Th) (s2 : ASeat) (b2 : Option (Nat × Obj)), SeatOK m bh y s2 b2 → SeatOK { m.step t with moves := m.moves + 1 } bh y s2 b2 := by
    intro y s2 b2 hk
    refine hk.kept (fun i d hd _ _ => ?_)
    show ∃ d', (m.step t).calls[i]? = some d' ∧ _
    rw [hcs]
    by_cases e : x.call.toNat = i
    · subst e
      rw [hc] at hd; injection hd with hd; subst hd
      exact ⟨c', get_set hc _, hop⟩
    · exact ⟨d, by rw [List.getElem?_set_ne e]; exact hd, rfl, rfl⟩
  have hub' : HubOK { m.step t with moves := m.moves + 1 } hub2 := by
    obtain ⟨hl, rank, at_, a1, a2, a3, a4⟩ := hH
    exact ⟨hl, rank, at_, a1, a2, a3, a4⟩
  have hlen : (m.step t).all.length = m.all.length := by rw [ha]; simp
  cases over with
  | true =>
    refine ⟨rfl, S' + (pt kb (kitO (ents bv)) + restH bv bh hub2 (tb.set t none)), ⟨hinv, seats.set t (seatAfter true (anOf a s)), tb.set t none, hub2, S', by rw [hlen]; simpa using h1, by rw [hlen]; simpa using h2, ?_, hM, hub', rfl⟩, ?_⟩
    · intro t2 y hy
      have hy : (m.step t).all[t2]? = some y := hy
      rw [ha] at hy
      by_cases e : t = t2
      · subst e
        have : y = x' := by simp [hlt] at hy; exact hy.symm
        subst this
        exact ⟨_, none, get_set e1 _, get_set e2 _, .inl ⟨hov rfl, rfl, rfl⟩⟩
      · rw [List.getElem?_set_ne e] at hy
        obtain ⟨s2, b2, f1, f2, f3⟩ := h3 t2 y hy
        exact ⟨s2, b2, by rw [List.getElem?_set_ne e]; exact f1, by rw [List.getElem?_set_ne e]; exact f2, keep y s2 b2 f3⟩
    · exact (h'.of_eq (show _ = S' + (pt kb (kitO (ents bv)) + restH bv bh hub2 (tb.set t none)) + F + pt bt o2 from by unfold restH; ac_rfl)).left
  | false =>
    obtain ⟨g1, g2, g3⟩ := hgo rfl
    refine ⟨rfl, S' + (pt kb (kitO (ents bv)) + restH bv bh hub2 (tb.set t (some (bt, o2)))), ⟨hinv, seats.set t (seatAfter false (anOf a s)), tb.set t (some (bt, o2)), hub2, S', by rw [hlen]; simpa using h1, by rw [hlen]; simpa using h2, ?_, hM, hub', rfl⟩, ?_⟩
    · intro t2 y hy
      have hy : (m.step t).all[t2]? = some y := hy
      rw [ha] at hy
      by_cases e : t = t2
      · subst e
        have : y = x' := by simp [hlt] at hy; exact hy.symm
        subst this
        exact ⟨_, _, get_set e1 _, get_set e2 _, .inr ⟨by omega, c', bt, o2, by show (m.step t).calls[y.call.toNat]? = _; rw [hcs, g1]; exact get_set hc _, by rw [g1]; exact hlast, by rw [g2]; exact htask, rfl, g3⟩⟩
      · rw [List.getElem?_set_ne e] at hy
        obtain ⟨s2, b2, f1, f2, f3⟩ := h3 t2 y hy
        exact ⟨s2, b2, by rw [List.getElem?_set_ne e]; exact f1, by rw [List.getElem?_set_ne e]; exact f2, keep y s2 b2 f3⟩
    · refine h'.of_eq ?_
      unfold restH
      rw [sumT_set tb t (some (bt, o2)) (by omega)]
      unfold oH
      ac_rfl

/-- A move that begins a call. -/
theorem pr_begin (hi : m.Inv) (hmv : m.moves < 65536) (h1 : seats.length = m.all.length) (h2 : tb.length = m.all.length)
    (h3 : ∀ (t : Nat) (x : Th), m.all[t]? = some x → ∃ (s : ASeat) (b : Option (Nat × Obj)), seats[t]? = some s ∧ tb[t]? = some b ∧ SeatOK m bh x s b)
    (h4 : MachAt bM bm (.map (some kb)) (m.words.map un) m.trace m.moves m.calls seats Sm) (h5 : HubOK m hub) (t : Nat) (x : Th) (hx : m.all[t]? = some x) (hb : x.call < 0) (op arg data : Int) (harg : I64 arg)
    (hop : op = 90 ∨ op = 91 ∨ op = 92) (hl : legal t op = true) (nw : Nat → Obj)
    (hnw : ∀ bt, TaskOK bh bt (callNew t op arg data m.moves) ⟨m.calls.length, 1, 0, 0, 0⟩ false (nw bt))
    (f : FuncId) (hlook : lookOf (ents bv) op .nilFunc = .func (.func f) #[] (capsV bv)) (hcf : ∀ args w, (callFunc f args).run Try.prog w = .ok (.enter f args) w)
    (hmk : ∀ (w : World) (S : Hp), Holds W w (pt bv (boxO bh) + S) → Calls Try.prog f (#[.int .i64 (t : Int), mvV t op arg data] ++ capsV bv) w fun e w' =>
      ∃ bt, e = .returned (.iface (tyOf op) (.pointer (some ⟨bt, 0, none⟩))) ∧ Holds W w' (pt bt (nw bt) + (pt bv (boxO bh) + S)))
    (h : Holds W w (Sm + (pt kb (kitO (ents bv)) + restH bv bh hub tb) + F)) :
    Calls Try.prog 19 (moveArgs bM t op arg data) w (MPost W bM bm kb bv bh { m.begins t op arg data with moves := m.moves + 1 } true F) := by
  obtain ⟨s, b, e1, e2, hs⟩ := h3 t x hx
  rcases hs with ⟨_, htask, rfl⟩ | ⟨hs, _⟩
  rotate_left
  · omega
  have hinv := hi.begun hmv hx hb harg hl (data := data)
  have hlt : t < m.all.length := (List.getElem?_eq_some_iff.1 hx).1
  have hn := hi.nth
  have hnc := hi.ncalls
  have hm0 := hi.mv
  refine (move_begin W w bM bm kb (m.words.map un) m.trace m.moves m.calls seats Sm (restH bv bh hub tb) F op arg data t s (ents bv) e1 htask (by omega) (by omega) (tyOf op) (fun bt => pt bt (nw bt) + restH bv bh hub tb) f (capsV bv) hlook hcf ?_
    (by omega) (by omega) hmv hm0.1 h4 (h.of_eq (by ac_rfl))).mono ?_
  · intro w2 S1 h2'
    refine (hmk w2 (S1 + (pt kb (kitO (ents bv)) + (pt bh hub + sumT tb + F))) (h2'.of_eq (by unfold restH; ac_rfl))).mono ?_
    rintro e w' ⟨bt, rfl, h3'⟩
    exact ⟨bt, rfl, h3'.of_eq (by unfold restH; ac_rfl)⟩
  rintro e w' ⟨bt, rfl, S', hM, h'⟩
  have keep : ∀ (y : Th) (s2 : ASeat) (b2 : Option (Nat × Obj)), SeatOK m bh y s2 b2 → SeatOK { m.begins t op arg data with moves := m.moves + 1 } bh y s2 b2 := by
    intro y s2 b2 hk
    refine hk.kept (fun i d hd _ _ => ⟨d, ?_, rfl, rfl⟩)
    show (m.calls ++ [_])[i]? = some d
    rw [List.getElem?_append_left (List.getElem?_eq_some_iff.1 hd).1]; exact hd
  refine ⟨rfl, S' + (pt kb (kitO (ents bv)) + restH bv bh hub (tb.set t (some (bt, nw bt)))), ⟨hinv, seats.set t (seatNew (.iface (tyOf op) (.pointer (some ⟨bt, 0, none⟩))) m.calls.length), tb.set t (some (bt, nw bt)), hub, S', ?_, ?_, ?_, hM, ?_, rfl⟩, ?_⟩
  · show _ = (m.all.set t _).length; simpa using h1
  · show _ = (m.all.set t _).length; simpa using h2
  · intro t2 y hy
    have hy : (m.all.set t ⟨m.calls.length, 1, 0, 0, 0⟩)[t2]? = some y := hy
    by_cases e : t = t2
    · subst e
      have : y = ⟨m.calls.length, 1, 0, 0, 0⟩ := by simp [hlt] at hy; exact hy.symm
      subst this
      refine ⟨_, _, get_set e1 _, get_set e2 _, .inr ⟨by show 0 ≤ (m.calls.length : Int); omega, callNew t op arg data m.moves, bt, nw bt, ?_, rfl, rfl, rfl, hnw bt⟩⟩
      show (m.calls ++ [_])[((m.calls.length : Int)).toNat]? = _
      simp
    · rw [List.getElem?_set_ne e] at hy
      obtain ⟨s2, b2, f1, f2, f3⟩ := h3 t2 y hy
      exact ⟨s2, b2, by rw [List.getElem?_set_ne e]; exact f1, by rw [List.getElem?_set_ne e]; exact f2, keep y s2 b2 f3⟩
  · obtain ⟨hl, rank, at_, a1, a2, a3, a4⟩ := h5
    refine ⟨hl, rank, at_, a1, a2, a3, ?_⟩
    intro d1 d2 t2 y d hy hyb hd ho hli hyt
    have hy : (m.all.set t ⟨m.calls.length, 1, 0, 0, 0⟩)[t2]? = some y := hy
    by_cases e : t = t2
    · subst e
      have : y = ⟨m.calls.length, 1, 0, 0, 0⟩ := by simp [hlt] at hy; exact hy.symm
      subst this
      exact absurd hli (by show ¬ (3 : Int) ≤ 1; omega)
    · rw [List.getElem?_set_ne e] at hy
      obtain ⟨d0, hd0, _⟩ := hi.ths t2 y hy hyb
      have hd : (m.calls ++ [_])[y.call.toNat]? = some d := hd
      rw [List.getElem?_append_left (List.getElem?_eq_some_iff.1 hd0).1] at hd
      exact a4 d1 d2 t2 y d hy hyb hd ho hli hyt
  · refine h'.of_eq ?_
    unfold restH
    rw [sumT_set tb t (some (bt, nw bt)) (by omega), sumT_get e2]
    unfold oH
    rw [Hp.emp_add]
    ac_rfl

/-- A move, whichever it is. -/
theorem deque_move (v : Mv) (harg : I64 v.arg) {S : Hp} (hrel : PRel bM bm kb bv bh m S) (h : Holds W w (S + F)) :
    Calls Try.prog 19 (moveArgs bM v.thread v.op v.arg v.data) w (MPost W bM bm kb bv bh (m.move v).1 (m.move v).2 F) := by
  obtain ⟨hi, seats, tb, hub, Sm, h1, h2, h3, h4, h5, rfl⟩ := hrel
  have hn := hi.nth
  have hm0 := hi.mv
  have h' := h.of_eq (show _ = Sm + (pt kb (kitO (ents bv)) + restH bv bh hub tb + F) from by ac_rfl)
  have h'' := h.of_eq (show _ = Sm + (pt kb (kitO (ents bv)) + (restH bv bh hub tb + F)) from by ac_rfl)
  by_cases q0 : 65536 ≤ m.moves
  · have e0 : m.move v = (m, false) := by unfold DM.move; rw [if_pos q0]
    rw [e0]
    refine (move_over W w bM bm (.map (some kb)) (m.words.map un) m.trace m.moves m.calls seats Sm (pt kb (kitO (ents bv)) + restH bv bh hub tb) F v.thread v.op v.arg v.data (by omega) (by omega) q0 h4 h').mono ?_
    rintro e w' ⟨rfl, S', hM, h2'⟩
    exact ⟨rfl, _, ⟨hi, seats, tb, hub, S', h1, h2, h3, hM, h5, rfl⟩, h2'.of_eq (by ac_rfl)⟩
  have hmv : m.moves < 65536 := by omega
  rw [move_lt hmv]
  have idle : m.move0 v = (m, false) → Calls Try.prog 19 (moveArgs bM v.thread v.op v.arg v.data) w (ListPost W bM bm (.map (some kb)) (m.words.map un) m.trace (m.moves + 1) m.calls seats (pt kb (kitO (ents bv)) + restH bv bh hub tb) F (.bool false)) →
      Calls Try.prog 19 (moveArgs bM v.thread v.op v.arg v.data) w (MPost W bM bm kb bv bh { (m.move0 v).1 with moves := m.moves + 1 } (m.move0 v).2 F) := by
    intro e0 hk
    rw [e0]
    refine hk.mono ?_
    rintro e w' ⟨rfl, S', hM, h2'⟩
    exact ⟨rfl, _, PRel.tick (hi.tick hmv) h1 h2 h3 hM h5, h2'.of_eq (by ac_rfl)⟩
  by_cases q1 : v.thread < 0 ∨ (m.all.length : Int) ≤ v.thread
  · refine idle (by unfold DM.move0; rw [if_pos q1]) ?_
    exact move_none W w bM bm (.map (some kb)) (m.words.map un) m.trace m.moves m.calls seats Sm (pt kb (kitO (ents bv)) + restH bv bh hub tb) F v.thread v.op v.arg v.data (by omega) (by omega) hmv hm0.1 (by omega) h4 h'
  obtain ⟨t, ht⟩ := Int.eq_ofNat_of_zero_le (show 0 ≤ v.thread by omega)
  have hlt : t < m.all.length := by omega
  have hx := List.getElem?_eq_getElem hlt
  have hT : v.thread.toNat = t := by omega
  have hth : m.th v.thread.toNat = m.all[t] := by rw [hT]; exact th_of hx
  generalize m.all[t] = x at hx hth
  obtain ⟨s, b, e1, e2, hs⟩ := h3 t x hx
  by_cases q2 : v.op = 0
  · by_cases q3 : x.call < 0
    · refine idle (by unfold DM.move0; rw [if_neg q1, if_pos q2, hth, if_pos q3]) ?_
      rcases hs with ⟨_, htask, _⟩ | ⟨hs, _⟩
      · rw [q2, ht]
        exact move_idle W w bM bm (.map (some kb)) (m.words.map un) m.trace m.moves m.calls seats Sm (pt kb (kitO (ents bv)) + restH bv bh hub tb) F v.arg v.data t s e1 htask (by omega) (by omega) hmv hm0.1 h4 h'
      · omega
    · have e0 : m.move0 v = (m.step t, true) := by unfold DM.move0; rw [if_neg q1, if_pos q2, hth, if_neg q3, hT]
      rw [e0, q2, ht]
      exact pr_step W w bM bm kb bv bh F hi hmv h1 h2 h3 h4 h5 t x hx (by omega) v.arg v.data h
  by_cases q3 : 0 ≤ x.call
  · refine idle (by unfold DM.move0; rw [if_neg q1, if_neg q2, hth, if_pos (.inl q3)]) ?_
    rcases hs with ⟨hs, _⟩ | ⟨_, c, bt, o, hc, hlast, htask, _⟩
    · omega
    · rw [ht]
      exact move_busy W w bM bm (.map (some kb)) (m.words.map un) m.trace m.moves m.calls seats Sm (pt kb (kitO (ents bv)) + restH bv bh hub tb) F v.op v.arg v.data t s _ bt e1 htask q2 (by omega) (by omega) hmv hm0.1 h4 h'
  rcases hs with ⟨_, htask, _⟩ | ⟨hs, _⟩
  rotate_left
  · omega
  by_cases q4 : legal v.thread v.op = true
  · have e0 : m.move0 v = (m.begins t v.op v.arg v.data, true) := by
      unfold DM.move0; rw [if_neg q1, if_neg q2, hth, if_neg (by rw [q4]; simp; omega), hT]
    rw [e0, ht]
    rw [ht] at q4
    have q5 := q4
    unfold legal at q5
    simp only [Bool.or_eq_true, Bool.and_eq_true, decide_eq_true_eq] at q5
    rcases q5 with q5 | ⟨q5 | q5, q6⟩
    · rw [q5] at q4 ⊢
      refine pr_begin W w bM bm kb bv bh F hi hmv h1 h2 h3 h4 h5 t x hx (by omega) 92 v.arg v.data harg (by omega) q4 (fun _ => tkO 123 bh .nilFunc 0 0 0 []) (fun bt => ?_) 53 rfl (fun args w => by kernel_rfl) (fun w S hh => make_steal W w bv bh 92 v.arg v.data S t hh) h
      exact .inr (.inr ⟨rfl, _, _, _, _, rfl, fun _ => rfl, (fun e => by cases e), (fun e => absurd e (by show ¬ (2 : Int) ≤ 1; omega)), (fun e => absurd e (by show ¬ (4 : Int) ≤ 1; omega))⟩)
    · have : t = 0 := by omega
      subst this
      rw [q5] at q4 ⊢
      refine pr_begin W w bM bm kb bv bh F hi hmv h1 h2 h3 h4 h5 0 x hx (by omega) 90 v.arg v.data harg (by omega) q4 (fun _ => tkO 117 bh .nilFunc 0 0 v.arg []) (fun bt => ?_) 51 rfl (fun args w => by kernel_rfl) (fun w S hh => make_push W w bv bh 90 v.arg v.data S hh) h
      exact .inl ⟨rfl, _, _, _, rfl, fun _ => rfl, (fun e => by cases e), (fun e => absurd e (by show ¬ (2 : Int) ≤ 1; omega))⟩
    · have : t = 0 := by omega
      subst this
      rw [q5] at q4 ⊢
      refine pr_begin W w bM bm kb bv bh F hi hmv h1 h2 h3 h4 h5 0 x hx (by omega) 91 v.arg v.data harg (by omega) q4 (fun _ => tkO 121 bh .nilFunc 0 0 0 [.bool false]) (fun bt => ?_) 52 rfl (fun args w => by kernel_rfl) (fun w S hh => make_take W w bv bh 91 v.arg v.data S hh) h
      exact .inr (.inl ⟨rfl, _, _, _, _, _, rfl, fun _ => rfl, (fun e => by cases e), (fun e => absurd e (by show ¬ (2 : Int) ≤ 1; omega)), (fun e => absurd e (by show ¬ (4 : Int) ≤ 1; omega)), (fun e => absurd e (by show ¬ (6 : Int) ≤ 1; omega)), (fun e => absurd e (by show ¬ (7 : Int) ≤ 1; omega))⟩)
  · refine idle (by unfold DM.move0; rw [if_neg q1, if_neg q2, hth, if_pos (.inr (by simpa using q4))]) ?_
    rw [ht] at q4 ⊢
    have q5 : v.op ≠ 92 ∧ ((v.op = 90 ∨ v.op = 91) → t ≠ 0) := by
      unfold legal at q4
      simp only [Bool.or_eq_true, Bool.and_eq_true, decide_eq_true_eq] at q4
      omega
    by_cases q6 : v.op = 90
    · rw [q6]
      exact move_refused W w bM bm kb (m.words.map un) m.trace m.moves m.calls seats Sm (restH bv bh hub tb) F 90 v.arg v.data t s (ents bv) e1 htask (by omega) 51 (capsV bv) rfl (fun args w => by kernel_rfl) (fun w S1 hh => make_push_no W w bv 90 v.arg v.data _ t (q5.2 (.inl q6)) hh) (by omega) (by omega) hmv hm0.1 h4 h''
    by_cases q7 : v.op = 91
    · rw [q7]
      exact move_refused W w bM bm kb (m.words.map un) m.trace m.moves m.calls seats Sm (restH bv bh hub tb) F 91 v.arg v.data t s (ents bv) e1 htask (by omega) 52 (capsV bv) rfl (fun args w => by kernel_rfl) (fun w S1 hh => make_take_no W w bv 91 v.arg v.data _ t (q5.2 (.inr q7)) hh) (by omega) (by omega) hmv hm0.1 h4 h''
    · exact move_unknown W w bM bm kb (m.words.map un) m.trace m.moves m.calls seats Sm (restH bv bh hub tb) F v.op v.arg v.data t s (ents bv) e1 htask q2 (by simp only [lookOf, ents, if_neg q6, if_neg q7, if_neg q5.1]) (by omega) (by omega) hmv hm0.1 h4 h''
end

end Go.Proofs.Ythifeaigdobonaa
