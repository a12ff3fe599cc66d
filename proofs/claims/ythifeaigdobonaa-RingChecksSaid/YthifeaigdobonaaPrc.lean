/- A step of a steal: the program's task does what the plain machine DM does. -/
import Derived.Test.YthifeaigdobonaaPra
namespace Go.Proofs.Ythifeaigdobonaa
open Go.RowKit DM

set_option maxHeartbeats 1000000 in
theorem st_1 (W : World) {m : DM} (hi : m.Inv) (_hmv : m.moves < 65536) {t : Nat} {x : Th} {c : ACall} {bt bh : Nat} {nx : Value} {b' t' v' : Int} {ready : Bool} {hl : Bool} {rank at_ : Int} (hx : m.all[t]? = some x) (_hb : 0 ≤ x.call) (hc : m.calls[x.call.toNat]? = some c) (ho : c.op = 92)
    (hline : x.line = 1) (_hr0 : ready = false → x.line = 1) (hr1 : ready = true → nx = mval (stealNext x.line) bt)
    (hd0 : m.down < 0 → hl = false) (hd1 : 0 ≤ m.down → rank = m.last ∧ at_ = m.down) (hf : FlagOK m hl) :
    StepOut W m t x c bt bh (tkO 123 bh nx b' t' v' []) (hubO m.room (wd m.words 0) hl rank at_) ready := by
  have hl3 := hi.lens
  have htop := hi.top
  have hbot := hi.bot
  have hm0 := hi.mv
  have hlog : m.trace.length < 1048576 := by have := hi.ntrace; omega
  have hstep : m.step t = (m.dload t 0).setTh t { x with t := wd m.words 0, line := 2 } := by
    rw [step_eq hx hc]
    unfold DM.steal
    simp only [ho, hline, if_true, if_false, Int.reduceEq]
  have hn : stealNext x.line = 175 := by unfold stealNext; rw [hline]; rfl
  have ht : tyOf c.op = 122 := by unfold tyOf; rw [ho]; rfl
  refine ⟨(tkO 123 bh (mval 175 bt) b' t' v' []), (tkO 123 bh (mval 176 bt) b' (wd m.words 0) v' []), (hubO m.room (wd m.words 0) hl rank at_), none, none, false, { x with t := wd m.words 0, line := 2 }, c, ?_, ?_, ?_, ?_, ?_, ?_, ?_, ?_, ?_⟩
  · rw [ht, hstep]
    refine does_of W _ bt bh t m.moves m.words m.words m.trace (m.trace ++ [⟨m.moves, t, 1, 0, 0, 0, un (wd m.words 0)⟩]) (tkO 123 bh nx b' t' v' []) (tkO 123 bh (mval 175 bt) b' t' v' []) (tkO 123 bh (mval 176 bt) b' (wd m.words 0) v' []) (hubO m.room (wd m.words 0) hl rank at_) (hubO m.room (wd m.words 0) hl rank at_) none none false ready 174 (fun hr => by rw [hr1 hr, hn]) (fun w => by kernel_rfl) (fun w => by kernel_rfl) (fun args w => by kernel_rfl) (fun _ q w S F cs ss e1 e2 e3 e4 hE h => by subst e1; subst e2; exact steal_ready W w q m.words m.trace m.room (wd m.words 0) rank at_ hl cs ss S F nx b' t' v' hE h) ?_
    intro q w S F cs ss e1 e2 e3 e4 hE h
    subst e1; subst e2
    have key := callstep W w q m.words _ m.trace _ _ _ _ _ _ _ _ _ cs ss _ _ S F 175 false (fun args w => by kernel_rfl) hE h (steal_begin W w q m.words m.trace m.room (wd m.words 0) rank at_ hl cs ss S F _ b' t' v' (by omega) (hi.w64 0) hlog hE h)
    rw [e3, e4] at key
    exact key
  · rw [hstep]; rfl
  · rw [hstep]; exact (self_set hc).symm
  · intro s; rfl
  · rw [hstep]; rfl
  · rw [hstep]; rfl
  · intro h; cases h
  · intro _; exact ⟨rfl, rfl, .inr (.inr ⟨ho, _, _, _, _, rfl, (fun h => by cases h), fun _ => rfl, (fun _ => rfl), (fun h => absurd h (by show ¬ (4 : Int) ≤ 2; omega))⟩)⟩
  · rw [hstep]
    refine ⟨hl, rank, at_, rfl, hd0, hd1, ?_⟩
    exact hf.kept (m' := _) hx hc (x' := { x with t := wd m.words 0, line := 2 }) (c' := c) rfl (self_set hc).symm rfl rfl rfl (by show wd m.words 0 ≤ wd m.words 0; omega) (fun _ _ _ => ⟨rfl, fun _ e => absurd e (by show ¬ (3 : Int) ≤ 2; omega)⟩)

set_option maxHeartbeats 1000000 in
theorem st_none (W : World) {m : DM} (hi : m.Inv) (_hmv : m.moves < 65536) {t : Nat} {x : Th} {c : ACall} {bt bh : Nat} {nx : Value} {b' v' : Int} {ready : Bool} {hl : Bool} {rank at_ : Int} (hx : m.all[t]? = some x) (_hb : 0 ≤ x.call) (hc : m.calls[x.call.toNat]? = some c) (ho : c.op = 92)
    (hline : x.line = 2) (hr0 : ready = false → x.line = 1) (hr1 : ready = true → nx = mval (stealNext x.line) bt) (h0 : wd m.words 1 ≤ x.t)
    (hd0 : m.down < 0 → hl = false) (hd1 : 0 ≤ m.down → rank = m.last ∧ at_ = m.down) (hf : FlagOK m hl) :
    StepOut W m t x c bt bh (tkO 123 bh nx b' x.t v' []) (hubO m.room (wd m.words 0) hl rank at_) ready := by
  have hl3 := hi.lens
  have htop := hi.top
  have hbot := hi.bot
  have hm0 := hi.mv
  have hlog : m.trace.length < 1048576 := by have := hi.ntrace; omega
  have hstep : m.step t = (m.dload t 1).fin t { x with b := wd m.words 1 } { c with point := m.moves } 3 0 := by
    rw [step_eq hx hc]
    unfold DM.steal
    simp only [ho, hline, h0, if_true, if_false, Int.reduceEq]
  have hn : stealNext x.line = 176 := by unfold stealNext; rw [hline]; rfl
  have ht : tyOf c.op = 122 := by unfold tyOf; rw [ho]; rfl
  refine ⟨(tkO 123 bh (mval 176 bt) b' x.t v' []), (tkO 123 bh (mval 176 bt) b' x.t v' []), (hubO m.room (wd m.words 0) hl rank at_), (some m.moves), (some (3, 0)), true, { x with b := wd m.words 1, call := -1 }, { c with point := m.moves, stop := m.moves, ak := 3, av := 0 }, ?_, ?_, ?_, ?_, ?_, ?_, ?_, ?_, ?_⟩
  · rw [ht, hstep]
    refine does_of W _ bt bh t m.moves m.words m.words m.trace (m.trace ++ [⟨m.moves, t, 1, 1, 0, 0, un (wd m.words 1)⟩]) (tkO 123 bh nx b' x.t v' []) (tkO 123 bh (mval 176 bt) b' x.t v' []) (tkO 123 bh (mval 176 bt) b' x.t v' []) (hubO m.room (wd m.words 0) hl rank at_) (hubO m.room (wd m.words 0) hl rank at_) (some m.moves) (some (3, 0)) true ready 174 (fun hr => by rw [hr1 hr, hn]) (fun w => by kernel_rfl) (fun w => by kernel_rfl) (fun args w => by kernel_rfl) (fun hr => absurd (hr0 hr) (by omega)) ?_
    intro q w S F cs ss e1 e2 e3 e4 hE h
    subst e1; subst e2
    have key := callstep W w q m.words _ m.trace _ _ _ _ _ _ _ _ _ cs ss _ _ S F 176 true (fun args w => by kernel_rfl) hE h (steal_none W w q m.words m.trace m.room (wd m.words 0) rank at_ hl cs ss S F _ b' x.t v' (by omega) (hi.w64 1) hlog h0 hE h)
    rw [e3, e4] at key
    exact key
  · rw [hstep]; rfl
  · rw [hstep]; rfl
  · intro s; rfl
  · rw [hstep]; rfl
  · rw [hstep]; rfl
  · intro _; show (-1 : Int) < 0; omega
  · intro h; cases h
  · rw [hstep]
    refine ⟨hl, rank, at_, rfl, hd0, hd1, ?_⟩
    exact hf.kept (m' := _) hx hc (x' := { x with b := wd m.words 1, call := -1 }) (c' := { c with point := m.moves, stop := m.moves, ak := 3, av := 0 }) rfl rfl rfl rfl rfl (by show wd m.words 0 ≤ wd m.words 0; omega) (fun _ _ hb' => absurd hb' (by show ¬ (0 : Int) ≤ -1; omega))

set_option maxHeartbeats 1000000 in
theorem st_2 (W : World) {m : DM} (hi : m.Inv) (_hmv : m.moves < 65536) {t : Nat} {x : Th} {c : ACall} {bt bh : Nat} {nx : Value} {b' v' : Int} {ready : Bool} {hl : Bool} {rank at_ : Int} (hx : m.all[t]? = some x) (_hb : 0 ≤ x.call) (hc : m.calls[x.call.toNat]? = some c) (ho : c.op = 92)
    (hline : x.line = 2) (hr0 : ready = false → x.line = 1) (hr1 : ready = true → nx = mval (stealNext x.line) bt) (h0 : ¬ wd m.words 1 ≤ x.t)
    (hd0 : m.down < 0 → hl = false) (hd1 : 0 ≤ m.down → rank = m.last ∧ at_ = m.down) (hf : FlagOK m hl) :
    StepOut W m t x c bt bh (tkO 123 bh nx b' x.t v' []) (hubO m.room (wd m.words 0) hl rank at_) ready := by
  have hl3 := hi.lens
  have htop := hi.top
  have hbot := hi.bot
  have hm0 := hi.mv
  have hlog : m.trace.length < 1048576 := by have := hi.ntrace; omega
  have hstep : m.step t = (m.dload t 1).setTh t { x with b := wd m.words 1, line := 3 } := by
    rw [step_eq hx hc]
    unfold DM.steal
    simp only [ho, hline, h0, if_true, if_false, Int.reduceEq]
  have hn : stealNext x.line = 176 := by unfold stealNext; rw [hline]; rfl
  have ht : tyOf c.op = 122 := by unfold tyOf; rw [ho]; rfl
  refine ⟨(tkO 123 bh (mval 176 bt) b' x.t v' []), (tkO 123 bh (mval 177 bt) b' x.t v' []), (hubO m.room (wd m.words 0) hl rank at_), none, none, false, { x with b := wd m.words 1, line := 3 }, c, ?_, ?_, ?_, ?_, ?_, ?_, ?_, ?_, ?_⟩
  · rw [ht, hstep]
    refine does_of W _ bt bh t m.moves m.words m.words m.trace (m.trace ++ [⟨m.moves, t, 1, 1, 0, 0, un (wd m.words 1)⟩]) (tkO 123 bh nx b' x.t v' []) (tkO 123 bh (mval 176 bt) b' x.t v' []) (tkO 123 bh (mval 177 bt) b' x.t v' []) (hubO m.room (wd m.words 0) hl rank at_) (hubO m.room (wd m.words 0) hl rank at_) none none false ready 174 (fun hr => by rw [hr1 hr, hn]) (fun w => by kernel_rfl) (fun w => by kernel_rfl) (fun args w => by kernel_rfl) (fun hr => absurd (hr0 hr) (by omega)) ?_
    intro q w S F cs ss e1 e2 e3 e4 hE h
    subst e1; subst e2
    have key := callstep W w q m.words _ m.trace _ _ _ _ _ _ _ _ _ cs ss _ _ S F 176 false (fun args w => by kernel_rfl) hE h (steal_look W w q m.words m.trace m.room (wd m.words 0) rank at_ hl cs ss S F _ b' x.t v' (by omega) (hi.w64 1) hlog h0 hE h)
    rw [e3, e4] at key
    exact key
  · rw [hstep]; rfl
  · rw [hstep]; exact (self_set hc).symm
  · intro s; rfl
  · rw [hstep]; rfl
  · rw [hstep]; rfl
  · intro h; cases h
  · intro _; exact ⟨rfl, rfl, .inr (.inr ⟨ho, _, _, _, _, rfl, (fun h => by cases h), fun _ => rfl, (fun _ => rfl), (fun h => absurd h (by show ¬ (4 : Int) ≤ 3; omega))⟩)⟩
  · rw [hstep]
    refine ⟨hl, rank, at_, rfl, hd0, hd1, ?_⟩
    exact hf.kept (m' := _) hx hc (x' := { x with b := wd m.words 1, line := 3 }) (c' := c) rfl (self_set hc).symm rfl rfl rfl (by show wd m.words 0 ≤ wd m.words 0; omega) (fun h1 _ _ => ⟨rfl, fun _ _ e => by have := Inv.low hi h1; have e : x.t = m.last := e; omega⟩)

set_option maxHeartbeats 1000000 in
theorem st_3 (W : World) {m : DM} (hi : m.Inv) (_hmv : m.moves < 65536) {t : Nat} {x : Th} {c : ACall} {bt bh : Nat} {nx : Value} {b' v' : Int} {ready : Bool} {hl : Bool} {rank at_ : Int} (hx : m.all[t]? = some x) (hb : 0 ≤ x.call) (hc : m.calls[x.call.toNat]? = some c) (ho : c.op = 92)
    (hline : x.line = 3) (hr0 : ready = false → x.line = 1) (hr1 : ready = true → nx = mval (stealNext x.line) bt) (_h0 : 0 ≤ x.t ∧ x.t ≤ wd m.words 0)
    (hd0 : m.down < 0 → hl = false) (hd1 : 0 ≤ m.down → rank = m.last ∧ at_ = m.down) (hf : FlagOK m hl) :
    StepOut W m t x c bt bh (tkO 123 bh nx b' x.t v' []) (hubO m.room (wd m.words 0) hl rank at_) ready := by
  have hl3 := hi.lens
  have htop := hi.top
  have hbot := hi.bot
  have hm0 := hi.mv
  have hlog : m.trace.length < 1048576 := by have := hi.ntrace; omega
  have hstep : m.step t = (m.dload t (2 + x.t % m.room)).setTh t { x with v := (wd m.words (2 + x.t % m.room).toNat), line := 4 } := by
    rw [step_eq hx hc]
    unfold DM.steal
    simp only [ho, hline, if_true, if_false, Int.reduceEq]
  have hn : stealNext x.line = 177 := by unfold stealNext; rw [hline]; rfl
  have ht : tyOf c.op = 122 := by unfold tyOf; rw [ho]; rfl
  refine ⟨(tkO 123 bh (mval 177 bt) b' x.t v' []), (tkO 123 bh (mval 178 bt) b' x.t (wd m.words (2 + x.t % m.room).toNat) []), (hubO m.room (wd m.words 0) hl rank at_), none, none, false, { x with v := (wd m.words (2 + x.t % m.room).toNat), line := 4 }, c, ?_, ?_, ?_, ?_, ?_, ?_, ?_, ?_, ?_⟩
  · rw [ht, hstep]
    refine does_of W _ bt bh t m.moves m.words m.words m.trace (m.trace ++ [⟨m.moves, t, 1, 2 + x.t % m.room, 0, 0, un (wd m.words (2 + x.t % m.room).toNat)⟩]) (tkO 123 bh nx b' x.t v' []) (tkO 123 bh (mval 177 bt) b' x.t v' []) (tkO 123 bh (mval 178 bt) b' x.t (wd m.words (2 + x.t % m.room).toNat) []) (hubO m.room (wd m.words 0) hl rank at_) (hubO m.room (wd m.words 0) hl rank at_) none none false ready 174 (fun hr => by rw [hr1 hr, hn]) (fun w => by kernel_rfl) (fun w => by kernel_rfl) (fun args w => by kernel_rfl) (fun hr => absurd (hr0 hr) (by omega)) ?_
    intro q w S F cs ss e1 e2 e3 e4 hE h
    subst e1; subst e2
    have key := callstep W w q m.words _ m.trace _ _ _ _ _ _ _ _ _ cs ss _ _ S F 177 false (fun args w => by kernel_rfl) hE h (steal_read W w q m.words m.trace m.room (wd m.words 0) rank at_ hl cs ss S F _ b' x.t v' (by omega) (by omega) hi.room.1 hi.room.2 hi.len hlog (hi.w64 _) hE h)
    rw [e3, e4] at key
    exact key
  · rw [hstep]; rfl
  · rw [hstep]; exact (self_set hc).symm
  · intro s; rfl
  · rw [hstep]; rfl
  · rw [hstep]; rfl
  · intro h; cases h
  · intro _; exact ⟨rfl, rfl, .inr (.inr ⟨ho, _, _, _, _, rfl, (fun h => by cases h), fun _ => rfl, (fun _ => rfl), (fun _ => rfl)⟩)⟩
  · rw [hstep]
    refine ⟨hl, rank, at_, rfl, hd0, hd1, ?_⟩
    exact hf.kept (m' := _) hx hc (x' := { x with v := (wd m.words (2 + x.t % m.room).toNat), line := 4 }) (c' := c) rfl (self_set hc).symm rfl rfl rfl (by show wd m.words 0 ≤ wd m.words 0; omega) (fun h1 h2 _ => ⟨rfl, fun _ _ e => hf h1 h2 t x c hx hb hc ho (by omega) e⟩)

set_option maxHeartbeats 1000000 in
theorem st_lost (W : World) {m : DM} (hi : m.Inv) (_hmv : m.moves < 65536) {t : Nat} {x : Th} {c : ACall} {bt bh : Nat} {nx : Value} {b' : Int} {ready : Bool} {hl : Bool} {rank at_ : Int} (hx : m.all[t]? = some x) (_hb : 0 ≤ x.call) (hc : m.calls[x.call.toNat]? = some c) (ho : c.op = 92)
    (hline : x.line = 4) (hr0 : ready = false → x.line = 1) (hr1 : ready = true → nx = mval (stealNext x.line) bt) (h0 : ¬ wd m.words 0 = x.t) (_h1 : 0 ≤ x.t ∧ x.t ≤ wd m.words 0)
    (hd0 : m.down < 0 → hl = false) (hd1 : 0 ≤ m.down → rank = m.last ∧ at_ = m.down) (hf : FlagOK m hl) :
    StepOut W m t x c bt bh (tkO 123 bh nx b' x.t x.v []) (hubO m.room (wd m.words 0) hl rank at_) ready := by
  have hl3 := hi.lens
  have htop := hi.top
  have hbot := hi.bot
  have hm0 := hi.mv
  have hlog : m.trace.length < 1048576 := by have := hi.ntrace; omega
  have hstep : m.step t = ({ m with trace := (m.trace ++ [⟨m.moves, t, 3, 0, un x.t, un (x.t + 1), un (wd m.words 0)⟩]) } : DM).setTh t { x with line := 1 } := by
    rw [step_eq hx hc]
    unfold DM.steal
    simp only [ho, hline, eq_false h0, if_true, if_false, Int.reduceEq]
    unfold DM.dswap; rw [swp_no h0]
  have hn : stealNext x.line = 178 := by unfold stealNext; rw [hline]; rfl
  have ht : tyOf c.op = 122 := by unfold tyOf; rw [ho]; rfl
  refine ⟨(tkO 123 bh (mval 178 bt) b' x.t x.v []), (tkO 123 bh (mval 175 bt) b' x.t x.v []), (hubO m.room (wd m.words 0) hl rank at_), none, none, false, { x with line := 1 }, c, ?_, ?_, ?_, ?_, ?_, ?_, ?_, ?_, ?_⟩
  · rw [ht, hstep]
    refine does_of W _ bt bh t m.moves m.words m.words m.trace (m.trace ++ [⟨m.moves, t, 3, 0, un x.t, un (x.t + 1), un (wd m.words 0)⟩]) (tkO 123 bh nx b' x.t x.v []) (tkO 123 bh (mval 178 bt) b' x.t x.v []) (tkO 123 bh (mval 175 bt) b' x.t x.v []) (hubO m.room (wd m.words 0) hl rank at_) (hubO m.room (wd m.words 0) hl rank at_) none none false ready 174 (fun hr => by rw [hr1 hr, hn]) (fun w => by kernel_rfl) (fun w => by kernel_rfl) (fun args w => by kernel_rfl) (fun hr => absurd (hr0 hr) (by omega)) ?_
    intro q w S F cs ss e1 e2 e3 e4 hE h
    subst e1; subst e2
    have key := callstep W w q m.words _ m.trace _ _ _ _ _ _ _ _ _ cs ss _ _ S F 178 false (fun args w => by kernel_rfl) hE h (steal_lost W w q m.words m.trace m.room (wd m.words 0) rank at_ hl cs ss S F _ b' x.t x.v (by omega) hlog (by omega) (by omega) h0 hE h)
    rw [e3, e4] at key
    exact key
  · rw [hstep]; rfl
  · rw [hstep]; exact (self_set hc).symm
  · intro s; rfl
  · rw [hstep]; rfl
  · rw [hstep]; rfl
  · intro h; cases h
  · intro _; exact ⟨rfl, rfl, .inr (.inr ⟨ho, _, _, _, _, rfl, (fun h => by cases h), fun _ => rfl, (fun h => absurd h (by show ¬ (2 : Int) ≤ 1; omega)), (fun h => absurd h (by show ¬ (4 : Int) ≤ 1; omega))⟩)⟩
  · rw [hstep]
    refine ⟨hl, rank, at_, rfl, hd0, hd1, ?_⟩
    exact hf.kept (m' := _) hx hc (x' := { x with line := 1 }) (c' := c) rfl (self_set hc).symm rfl rfl rfl (by show wd m.words 0 ≤ wd m.words 0; omega) (fun _ _ _ => ⟨rfl, fun _ e => absurd e (by show ¬ (3 : Int) ≤ 1; omega)⟩)

set_option maxHeartbeats 1000000 in
theorem st_won_off (W : World) {m : DM} (hi : m.Inv) (_hmv : m.moves < 65536) {t : Nat} {x : Th} {c : ACall} {bt bh : Nat} {nx : Value} {b' : Int} {ready : Bool} {rank at_ : Int} (hx : m.all[t]? = some x) (_hb : 0 ≤ x.call) (hc : m.calls[x.call.toNat]? = some c) (ho : c.op = 92)
    (hline : x.line = 4) (hr0 : ready = false → x.line = 1) (hr1 : ready = true → nx = mval (stealNext x.line) bt) (h0 : wd m.words 0 = x.t) (_h1 : 0 ≤ x.t ∧ x.t ≤ wd m.words 0) (h2 : ¬ (0 ≤ m.down ∧ m.last = x.t))
    (hd0 : m.down < 0 → false = false) (hd1 : 0 ≤ m.down → rank = m.last ∧ at_ = m.down) (hf : FlagOK m false) :
    StepOut W m t x c bt bh (tkO 123 bh nx b' x.t x.v []) (hubO m.room (wd m.words 0) false rank at_) ready := by
  have hl3 := hi.lens
  have htop := hi.top
  have hbot := hi.bot
  have hm0 := hi.mv
  have hlog : m.trace.length < 1048576 := by have := hi.ntrace; omega
  have f0 : wd (m.words.set 0 (x.t + 1)) 0 = x.t + 1 := by rw [wd_set, if_pos ⟨rfl, by omega⟩]
  have hstep : m.step t = ({ m with words := m.words.set 0 (x.t + 1), trace := (m.trace ++ [⟨m.moves, t, 3, 0, un x.t, un (x.t + 1), un (wd m.words 0)⟩]) } : DM).fin t x { c with point := m.moves } 2 x.v := by
    rw [step_eq hx hc]
    unfold DM.steal
    simp only [ho, hline, eq_true h0, eq_false h2, if_true, if_false, Int.reduceEq]
    unfold DM.dswap; rw [swp_yes h0]
  have hn : stealNext x.line = 178 := by unfold stealNext; rw [hline]; rfl
  have ht : tyOf c.op = 122 := by unfold tyOf; rw [ho]; rfl
  refine ⟨(tkO 123 bh (mval 178 bt) b' x.t x.v []), (tkO 123 bh (mval 178 bt) b' x.t x.v []), (hubO m.room (x.t + 1) false rank at_), (some m.moves), (some (2, x.v)), true, { x with call := -1 }, { c with point := m.moves, stop := m.moves, ak := 2, av := x.v }, ?_, ?_, ?_, ?_, ?_, ?_, ?_, ?_, ?_⟩
  · rw [ht, hstep]
    refine does_of W _ bt bh t m.moves m.words (m.words.set 0 (x.t + 1)) m.trace (m.trace ++ [⟨m.moves, t, 3, 0, un x.t, un (x.t + 1), un (wd m.words 0)⟩]) (tkO 123 bh nx b' x.t x.v []) (tkO 123 bh (mval 178 bt) b' x.t x.v []) (tkO 123 bh (mval 178 bt) b' x.t x.v []) (hubO m.room (wd m.words 0) false rank at_) (hubO m.room (x.t + 1) false rank at_) (some m.moves) (some (2, x.v)) true ready 174 (fun hr => by rw [hr1 hr, hn]) (fun w => by kernel_rfl) (fun w => by kernel_rfl) (fun args w => by kernel_rfl) (fun hr => absurd (hr0 hr) (by omega)) ?_
    intro q w S F cs ss e1 e2 e3 e4 hE h
    subst e1; subst e2
    have key := callstep W w q m.words _ m.trace _ _ _ _ _ _ _ _ _ cs ss _ _ S F 178 true (fun args w => by kernel_rfl) hE h (steal_won_off W w q m.words m.trace m.room (wd m.words 0) rank at_ cs ss S F _ b' x.t x.v (by omega) hlog (by omega) (by omega) h0 hE h)
    rw [e3, e4] at key
    exact key
  · rw [hstep]; rfl
  · rw [hstep]; rfl
  · intro s; rfl
  · rw [hstep]; rfl
  · rw [hstep]; rfl
  · intro _; show (-1 : Int) < 0; omega
  · intro h; cases h
  · rw [hstep]
    refine ⟨false, rank, at_, by show hubO m.room (x.t + 1) false rank at_ = hubO m.room (wd (m.words.set 0 (x.t + 1)) 0) false rank at_; rw [f0], hd0, hd1, ?_⟩
    exact hf.kept (m' := _) hx hc (x' := { x with call := -1 }) (c' := { c with point := m.moves, stop := m.moves, ak := 2, av := x.v }) rfl rfl rfl rfl rfl (by show wd m.words 0 ≤ wd (m.words.set 0 (x.t + 1)) 0; rw [f0]; omega) (fun _ _ hb' => absurd hb' (by show ¬ (0 : Int) ≤ -1; omega))

set_option maxHeartbeats 1000000 in
theorem st_won_far (W : World) {m : DM} (hi : m.Inv) (_hmv : m.moves < 65536) {t : Nat} {x : Th} {c : ACall} {bt bh : Nat} {nx : Value} {b' : Int} {ready : Bool} {rank at_ : Int} (hx : m.all[t]? = some x) (_hb : 0 ≤ x.call) (hc : m.calls[x.call.toNat]? = some c) (ho : c.op = 92)
    (hline : x.line = 4) (hr0 : ready = false → x.line = 1) (hr1 : ready = true → nx = mval (stealNext x.line) bt) (h0 : wd m.words 0 = x.t) (_h1 : 0 ≤ x.t ∧ x.t ≤ wd m.words 0) (h2 : ¬ (0 ≤ m.down ∧ m.last = x.t))
    (hd0 : m.down < 0 → true = false) (hd1 : 0 ≤ m.down → rank = m.last ∧ at_ = m.down) (hf : FlagOK m true) :
    StepOut W m t x c bt bh (tkO 123 bh nx b' x.t x.v []) (hubO m.room (wd m.words 0) true rank at_) ready := by
  have hl3 := hi.lens
  have htop := hi.top
  have hbot := hi.bot
  have hm0 := hi.mv
  have hlog : m.trace.length < 1048576 := by have := hi.ntrace; omega
  have f0 : wd (m.words.set 0 (x.t + 1)) 0 = x.t + 1 := by rw [wd_set, if_pos ⟨rfl, by omega⟩]
  have hstep : m.step t = ({ m with words := m.words.set 0 (x.t + 1), trace := (m.trace ++ [⟨m.moves, t, 3, 0, un x.t, un (x.t + 1), un (wd m.words 0)⟩]) } : DM).fin t x { c with point := m.moves } 2 x.v := by
    rw [step_eq hx hc]
    unfold DM.steal
    simp only [ho, hline, eq_true h0, eq_false h2, if_true, if_false, Int.reduceEq]
    unfold DM.dswap; rw [swp_yes h0]
  have hn : stealNext x.line = 178 := by unfold stealNext; rw [hline]; rfl
  have ht : tyOf c.op = 122 := by unfold tyOf; rw [ho]; rfl
  refine ⟨(tkO 123 bh (mval 178 bt) b' x.t x.v []), (tkO 123 bh (mval 178 bt) b' x.t x.v []), (hubO m.room (x.t + 1) true rank at_), (some m.moves), (some (2, x.v)), true, { x with call := -1 }, { c with point := m.moves, stop := m.moves, ak := 2, av := x.v }, ?_, ?_, ?_, ?_, ?_, ?_, ?_, ?_, ?_⟩
  · rw [ht, hstep]
    refine does_of W _ bt bh t m.moves m.words (m.words.set 0 (x.t + 1)) m.trace (m.trace ++ [⟨m.moves, t, 3, 0, un x.t, un (x.t + 1), un (wd m.words 0)⟩]) (tkO 123 bh nx b' x.t x.v []) (tkO 123 bh (mval 178 bt) b' x.t x.v []) (tkO 123 bh (mval 178 bt) b' x.t x.v []) (hubO m.room (wd m.words 0) true rank at_) (hubO m.room (x.t + 1) true rank at_) (some m.moves) (some (2, x.v)) true ready 174 (fun hr => by rw [hr1 hr, hn]) (fun w => by kernel_rfl) (fun w => by kernel_rfl) (fun args w => by kernel_rfl) (fun hr => absurd (hr0 hr) (by omega)) ?_
    intro q w S F cs ss e1 e2 e3 e4 hE h
    subst e1; subst e2
    have key := callstep W w q m.words _ m.trace _ _ _ _ _ _ _ _ _ cs ss _ _ S F 178 true (fun args w => by kernel_rfl) hE h (steal_won_far W w q m.words m.trace m.room (wd m.words 0) rank at_ cs ss S F _ b' x.t x.v (by omega) hlog (by omega) (by omega) h0 (by have h3 : 0 ≤ m.down := (by rcases Int.lt_or_le m.down 0 with e | e; exact absurd (hd0 e) (by decide); exact e); have := hd1 h3; omega) hE h)
    rw [e3, e4] at key
    exact key
  · rw [hstep]; rfl
  · rw [hstep]; rfl
  · intro s; rfl
  · rw [hstep]; rfl
  · rw [hstep]; rfl
  · intro _; show (-1 : Int) < 0; omega
  · intro h; cases h
  · rw [hstep]
    refine ⟨true, rank, at_, by show hubO m.room (x.t + 1) true rank at_ = hubO m.room (wd (m.words.set 0 (x.t + 1)) 0) true rank at_; rw [f0], hd0, hd1, ?_⟩
    exact hf.kept (m' := _) hx hc (x' := { x with call := -1 }) (c' := { c with point := m.moves, stop := m.moves, ak := 2, av := x.v }) rfl rfl rfl rfl rfl (by show wd m.words 0 ≤ wd (m.words.set 0 (x.t + 1)) 0; rw [f0]; omega) (fun _ _ hb' => absurd hb' (by show ¬ (0 : Int) ≤ -1; omega))

set_option maxHeartbeats 1000000 in
theorem st_won_back (W : World) {m : DM} (hi : m.Inv) (_hmv : m.moves < 65536) {t : Nat} {x : Th} {c : ACall} {bt bh : Nat} {nx : Value} {b' : Int} {ready : Bool} {rank at_ : Int} (hx : m.all[t]? = some x) (_hb : 0 ≤ x.call) (hc : m.calls[x.call.toNat]? = some c) (ho : c.op = 92)
    (hline : x.line = 4) (hr0 : ready = false → x.line = 1) (hr1 : ready = true → nx = mval (stealNext x.line) bt) (h0 : wd m.words 0 = x.t) (_h1 : 0 ≤ x.t ∧ x.t ≤ wd m.words 0) (h2 : 0 ≤ m.down ∧ m.last = x.t)
    (hd0 : m.down < 0 → true = false) (hd1 : 0 ≤ m.down → rank = m.last ∧ at_ = m.down) (hf : FlagOK m true) :
    StepOut W m t x c bt bh (tkO 123 bh nx b' x.t x.v []) (hubO m.room (wd m.words 0) true rank at_) ready := by
  have hl3 := hi.lens
  have htop := hi.top
  have hbot := hi.bot
  have hm0 := hi.mv
  have hlog : m.trace.length < 1048576 := by have := hi.ntrace; omega
  have f0 : wd (m.words.set 0 (x.t + 1)) 0 = x.t + 1 := by rw [wd_set, if_pos ⟨rfl, by omega⟩]
  obtain ⟨_, rfl⟩ := hd1 h2.1
  have hstep : m.step t = ({ m with words := m.words.set 0 (x.t + 1), trace := (m.trace ++ [⟨m.moves, t, 3, 0, un x.t, un (x.t + 1), un (wd m.words 0)⟩]) } : DM).fin t x { c with point := m.down } 2 x.v := by
    rw [step_eq hx hc]
    unfold DM.steal
    simp only [ho, hline, eq_true h0, eq_true h2, if_true, if_false, Int.reduceEq]
    unfold DM.dswap; rw [swp_yes h0]
  have hn : stealNext x.line = 178 := by unfold stealNext; rw [hline]; rfl
  have ht : tyOf c.op = 122 := by unfold tyOf; rw [ho]; rfl
  refine ⟨(tkO 123 bh (mval 178 bt) b' x.t x.v []), (tkO 123 bh (mval 178 bt) b' x.t x.v []), (hubO m.room (x.t + 1) true rank m.down), (some m.down), (some (2, x.v)), true, { x with call := -1 }, { c with point := m.down, stop := m.moves, ak := 2, av := x.v }, ?_, ?_, ?_, ?_, ?_, ?_, ?_, ?_, ?_⟩
  · rw [ht, hstep]
    refine does_of W _ bt bh t m.moves m.words (m.words.set 0 (x.t + 1)) m.trace (m.trace ++ [⟨m.moves, t, 3, 0, un x.t, un (x.t + 1), un (wd m.words 0)⟩]) (tkO 123 bh nx b' x.t x.v []) (tkO 123 bh (mval 178 bt) b' x.t x.v []) (tkO 123 bh (mval 178 bt) b' x.t x.v []) (hubO m.room (wd m.words 0) true rank m.down) (hubO m.room (x.t + 1) true rank m.down) (some m.down) (some (2, x.v)) true ready 174 (fun hr => by rw [hr1 hr, hn]) (fun w => by kernel_rfl) (fun w => by kernel_rfl) (fun args w => by kernel_rfl) (fun hr => absurd (hr0 hr) (by omega)) ?_
    intro q w S F cs ss e1 e2 e3 e4 hE h
    subst e1; subst e2
    have key := callstep W w q m.words _ m.trace _ _ _ _ _ _ _ _ _ cs ss _ _ S F 178 true (fun args w => by kernel_rfl) hE h (steal_won_back W w q m.words m.trace m.room (wd m.words 0) rank m.down cs ss S F _ b' x.t x.v (by omega) hlog (by omega) (by omega) h0 (by have := hd1 h2.1; omega) hE h)
    rw [e3, e4] at key
    exact key
  · rw [hstep]; rfl
  · rw [hstep]; rfl
  · intro s; rfl
  · rw [hstep]; rfl
  · rw [hstep]; rfl
  · intro _; show (-1 : Int) < 0; omega
  · intro h; cases h
  · rw [hstep]
    refine ⟨true, rank, m.down, by show hubO m.room (x.t + 1) true rank m.down = hubO m.room (wd (m.words.set 0 (x.t + 1)) 0) true rank m.down; rw [f0], hd0, hd1, ?_⟩
    exact hf.kept (m' := _) hx hc (x' := { x with call := -1 }) (c' := { c with point := m.down, stop := m.moves, ak := 2, av := x.v }) rfl rfl rfl rfl rfl (by show wd m.words 0 ≤ wd (m.words.set 0 (x.t + 1)) 0; rw [f0]; omega) (fun _ _ hb' => absurd hb' (by show ¬ (0 : Int) ≤ -1; omega))

end Go.Proofs.Ythifeaigdobonaa
