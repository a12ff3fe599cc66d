/- A step of a take: the program's task does what the plain machine DM does. -/
import Derived.Test.YthifeaigdobonaaPra
namespace Go.Proofs.Ythifeaigdobonaa
open Go.RowKit DM

theorem swp_yes {l : List Int} {x y : Int} (h : wd l 0 = x) : swp l 0 x y = l.set 0 y := by simp [swp, h]
theorem swp_no {l : List Int} {x y : Int} (h : ¬ wd l 0 = x) : swp l 0 x y = l := by simp [swp, h]

/-- The flag when the owner's take lowers the bottom. -/
theorem FlagOK.fresh {m m' : DM} (hi : m.Inv) {t : Nat} {x x' : Th} {c c' : ACall} (hx : m.all[t]? = some x) (hc : m.calls[x.call.toNat]? = some c) (ho : c.op = 91)
    (ha : m'.all = m.all.set t x') (hcs : m'.calls = m.calls.set x.call.toNat c') (hop : c'.op = c.op) (hcall : x'.call = x.call) (htop : wd m'.words 0 = wd m.words 0) : FlagOK m' (wd m.words 0 == m'.last) := by
  intro h1 h2 t2 y d hy hb hcd ho2 hli hyt
  have hne : wd m.words 0 ≠ m'.last := by simpa using h2
  have hlt : t < m.all.length := (List.getElem?_eq_some_iff.1 hx).1
  have hcl : x.call.toNat < m.calls.length := (List.getElem?_eq_some_iff.1 hc).1
  rw [ha] at hy
  rw [hcs] at hcd
  by_cases e : t = t2
  · subst e
    have : y = x' := by simp [hlt] at hy; exact hy.symm
    subst this
    rw [hcall] at hcd
    have : d = c' := by simp [hcl] at hcd; exact hcd.symm
    subst this
    omega
  · have hy' : m.all[t2]? = some y := by simpa [e] using hy
    have hd2 : m.calls[y.call.toNat]? = some d := by
      by_cases e2 : x.call.toNat = y.call.toNat
      · rw [← e2] at hcd
        have : d = c' := by simp [hcl] at hcd; exact hcd.symm
        subst this
        omega
      · rwa [List.getElem?_set_ne e2] at hcd
    obtain ⟨d3, hd3, hp⟩ := hi.ths t2 y hy' hb
    rw [hd2] at hd3; injection hd3 with hd3; subst hd3
    rcases hp with ⟨p, _⟩ | ⟨p, _⟩ | ⟨_, _, _, p⟩
    · omega
    · omega
    · have := p (by omega)
      rw [htop]
      omega

theorem Inv.low {m : DM} (hi : m.Inv) (hd : 0 ≤ m.down) : wd m.words 1 = m.last := by
  obtain ⟨y, d, r1, r2, r3, r4, r5⟩ := hi.dn hd
  obtain ⟨d2, r6, hp⟩ := hi.ths 0 y r1 r2
  rw [r3] at r6; injection r6 with r6; subst r6
  rcases hp with ⟨p, _⟩ | ⟨_, _, _, _, _, p, _⟩ | ⟨p, _⟩
  · omega
  · have := p r5; omega
  · omega

set_option maxHeartbeats 1000000 in
theorem tk_1 (W : World) {m : DM} (hi : m.Inv) (_hmv : m.moves < 65536) {t : Nat} {x : Th} {c : ACall} {bt bh : Nat} {nx : Value} {b' t' v' : Int} {got' : Bool} {ready : Bool} {hl : Bool} {rank at_ : Int} (hx : m.all[t]? = some x) (_hb : 0 ≤ x.call) (hc : m.calls[x.call.toNat]? = some c) (ho : c.op = 91)
    (hline : x.line = 1) (_hr0 : ready = false → x.line = 1) (hr1 : ready = true → nx = mval (takeNext x.line) bt)
    (hd0 : m.down < 0 → hl = false) (hd1 : 0 ≤ m.down → rank = m.last ∧ at_ = m.down) (hf : FlagOK m hl) :
    StepOut W m t x c bt bh (tkO 121 bh nx b' t' v' [.bool got']) (hubO m.room (wd m.words 0) hl rank at_) ready := by
  have hl3 := hi.lens
  have htop := hi.top
  have hbot := hi.bot
  have hm0 := hi.mv
  have hlog : m.trace.length < 1048576 := by have := hi.ntrace; omega
  have hstep : m.step t = (m.dload t 1).setTh t { x with b := wd m.words 1, line := 2 } := by
    rw [step_eq hx hc]
    unfold DM.take
    simp only [ho, hline, if_true, if_false, Int.reduceEq]
  have hn : takeNext x.line = 164 := by unfold takeNext; rw [hline]; rfl
  have ht : tyOf c.op = 119 := by unfold tyOf; rw [ho]; rfl
  refine ⟨(tkO 121 bh (mval 164 bt) b' t' v' [.bool got']), (tkO 121 bh (mval 165 bt) (wd m.words 1 - 1) t' v' [.bool got']), (hubO m.room (wd m.words 0) hl rank at_), none, none, false, { x with b := wd m.words 1, line := 2 }, c, ?_, ?_, ?_, ?_, ?_, ?_, ?_, ?_, ?_⟩
  · rw [ht, hstep]
    refine does_of W _ bt bh t m.moves m.words m.words m.trace (m.trace ++ [⟨m.moves, t, 1, 1, 0, 0, un (wd m.words 1)⟩]) (tkO 121 bh nx b' t' v' [.bool got']) (tkO 121 bh (mval 164 bt) b' t' v' [.bool got']) (tkO 121 bh (mval 165 bt) (wd m.words 1 - 1) t' v' [.bool got']) (hubO m.room (wd m.words 0) hl rank at_) (hubO m.room (wd m.words 0) hl rank at_) none none false ready 163 (fun hr => by rw [hr1 hr, hn]) (fun w => by kernel_rfl) (fun w => by kernel_rfl) (fun args w => by kernel_rfl) (fun _ q w S F cs ss e1 e2 e3 e4 hE h => by subst e1; subst e2; exact take_ready W w q m.words m.trace m.room (wd m.words 0) rank at_ hl cs ss S F nx b' t' v' got' hE h) ?_
    intro q w S F cs ss e1 e2 e3 e4 hE h
    subst e1; subst e2
    have key := callstep W w q m.words _ m.trace _ _ _ _ _ _ _ _ _ cs ss _ _ S F 164 false (fun args w => by kernel_rfl) hE h (take_bottom W w q m.words m.trace m.room (wd m.words 0) rank at_ hl cs ss S F _ b' t' v' got' (by omega) (hi.w64 1) hlog (by omega) hE h)
    rw [e3, e4] at key
    exact key
  · rw [hstep]; rfl
  · rw [hstep]; exact (self_set hc).symm
  · intro s; rfl
  · rw [hstep]; rfl
  · rw [hstep]; rfl
  · intro h; cases h
  · intro _; exact ⟨rfl, rfl, .inr (.inl ⟨ho, _, _, _, _, _, rfl, (fun h => by cases h), fun _ => rfl, (fun _ => rfl), (fun h => absurd h (by show ¬ (4 : Int) ≤ 2; omega)), (fun h => absurd h (by show ¬ (6 : Int) ≤ 2; omega)), (fun h => absurd h (by show ¬ (7 : Int) ≤ 2; omega))⟩)⟩
  · rw [hstep]
    refine ⟨hl, rank, at_, rfl, hd0, hd1, ?_⟩
    exact hf.kept (m' := _) hx hc (x' := { x with b := wd m.words 1, line := 2 }) (c' := c) rfl (self_set hc).symm rfl rfl rfl (by show wd m.words 0 ≤ wd m.words 0; omega) (fun _ _ _ => ⟨rfl, fun e => absurd e (by omega)⟩)

set_option maxHeartbeats 1000000 in
theorem tk_2 (W : World) {m : DM} (hi : m.Inv) (_hmv : m.moves < 65536) {t : Nat} {x : Th} {c : ACall} {bt bh : Nat} {nx : Value} {t' v' : Int} {got' : Bool} {ready : Bool} {hl : Bool} {rank at_ : Int} (hx : m.all[t]? = some x) (_hb : 0 ≤ x.call) (hc : m.calls[x.call.toNat]? = some c) (ho : c.op = 91)
    (hline : x.line = 2) (hr0 : ready = false → x.line = 1) (hr1 : ready = true → nx = mval (takeNext x.line) bt)
    (_hd0 : m.down < 0 → hl = false) (_hd1 : 0 ≤ m.down → rank = m.last ∧ at_ = m.down) (_hf : FlagOK m hl) :
    StepOut W m t x c bt bh (tkO 121 bh nx (x.b - 1) t' v' [.bool got']) (hubO m.room (wd m.words 0) hl rank at_) ready := by
  have hl3 := hi.lens
  have htop := hi.top
  have hbot := hi.bot
  have hm0 := hi.mv
  have hlog : m.trace.length < 1048576 := by have := hi.ntrace; omega
  have f0 : wd (m.words.set 1 (x.b - 1)) 0 = wd m.words 0 := by rw [wd_set, if_neg (by omega)]
  have hstep : m.step t = { ((m.dstore t 1 (x.b - 1)).point x c m.moves).setTh t { x with line := 3 } with down := m.moves, last := x.b - 1 } := by
    rw [step_eq hx hc]
    unfold DM.take
    simp only [ho, hline, if_true, if_false, Int.reduceEq]
  have hn : takeNext x.line = 165 := by unfold takeNext; rw [hline]; rfl
  have ht : tyOf c.op = 119 := by unfold tyOf; rw [ho]; rfl
  refine ⟨(tkO 121 bh (mval 165 bt) (x.b - 1) t' v' [.bool got']), (tkO 121 bh (mval 166 bt) (x.b - 1) t' v' [.bool got']), (hubO m.room (wd m.words 0) (wd m.words 0 == x.b - 1) (x.b - 1) m.moves), (some m.moves), none, false, { x with line := 3 }, { c with point := m.moves }, ?_, ?_, ?_, ?_, ?_, ?_, ?_, ?_, ?_⟩
  · rw [ht, hstep]
    refine does_of W _ bt bh t m.moves m.words (m.words.set 1 (x.b - 1)) m.trace (m.trace ++ [⟨m.moves, t, 2, 1, 0, un (x.b - 1), 0⟩]) (tkO 121 bh nx (x.b - 1) t' v' [.bool got']) (tkO 121 bh (mval 165 bt) (x.b - 1) t' v' [.bool got']) (tkO 121 bh (mval 166 bt) (x.b - 1) t' v' [.bool got']) (hubO m.room (wd m.words 0) hl rank at_) (hubO m.room (wd m.words 0) (wd m.words 0 == x.b - 1) (x.b - 1) m.moves) (some m.moves) none false ready 163 (fun hr => by rw [hr1 hr, hn]) (fun w => by kernel_rfl) (fun w => by kernel_rfl) (fun args w => by kernel_rfl) (fun hr => absurd (hr0 hr) (by omega)) ?_
    intro q w S F cs ss e1 e2 e3 e4 hE h
    subst e1; subst e2
    have key := callstep W w q m.words _ m.trace _ _ _ _ _ _ _ _ _ cs ss _ _ S F 165 false (fun args w => by kernel_rfl) hE h (take_lower W w q m.words m.trace m.room (wd m.words 0) rank at_ hl cs ss S F _ (x.b - 1) t' v' got' (by omega) hlog hE h)
    rw [e3, e4] at key
    exact key
  · rw [hstep]; rfl
  · rw [hstep]; rfl
  · intro s; rfl
  · rw [hstep]; rfl
  · rw [hstep]; rfl
  · intro h; cases h
  · intro _; exact ⟨rfl, rfl, .inr (.inl ⟨ho, _, _, _, _, _, rfl, (fun h => by cases h), fun _ => rfl, (fun _ => rfl), (fun h => absurd h (by show ¬ (4 : Int) ≤ 3; omega)), (fun h => absurd h (by show ¬ (6 : Int) ≤ 3; omega)), (fun h => absurd h (by show ¬ (7 : Int) ≤ 3; omega))⟩)⟩
  · rw [hstep]
    refine ⟨_, _, _, by show hubO m.room (wd m.words 0) (wd m.words 0 == x.b - 1) (x.b - 1) m.moves = hubO m.room (wd (m.words.set 1 (x.b - 1)) 0) (wd m.words 0 == x.b - 1) (x.b - 1) m.moves; rw [f0], fun h => absurd h (by show ¬ m.moves < 0; omega), fun _ => ⟨rfl, rfl⟩, ?_⟩
    exact FlagOK.fresh (m' := { ((m.dstore t 1 (x.b - 1)).point x c m.moves).setTh t { x with line := 3 } with down := m.moves, last := x.b - 1 }) hi hx hc ho (x' := { x with line := 3 }) (c' := { c with point := m.moves }) rfl rfl rfl rfl f0

set_option maxHeartbeats 1000000 in
theorem tk_3 (W : World) {m : DM} (hi : m.Inv) (_hmv : m.moves < 65536) {t : Nat} {x : Th} {c : ACall} {bt bh : Nat} {nx : Value} {t' v' : Int} {got' : Bool} {ready : Bool} {hl : Bool} {rank at_ : Int} (hx : m.all[t]? = some x) (_hb : 0 ≤ x.call) (hc : m.calls[x.call.toNat]? = some c) (ho : c.op = 91)
    (hline : x.line = 3) (hr0 : ready = false → x.line = 1) (hr1 : ready = true → nx = mval (takeNext x.line) bt) (h0 : ¬ x.b - 1 < wd m.words 0)
    (hd0 : m.down < 0 → hl = false) (hd1 : 0 ≤ m.down → rank = m.last ∧ at_ = m.down) (hf : FlagOK m hl) :
    StepOut W m t x c bt bh (tkO 121 bh nx (x.b - 1) t' v' [.bool got']) (hubO m.room (wd m.words 0) hl rank at_) ready := by
  have hl3 := hi.lens
  have htop := hi.top
  have hbot := hi.bot
  have hm0 := hi.mv
  have hlog : m.trace.length < 1048576 := by have := hi.ntrace; omega
  have hstep : m.step t = (m.dload t 0).setTh t { x with t := wd m.words 0, line := 5 } := by
    rw [step_eq hx hc]
    unfold DM.take
    simp only [ho, hline, h0, if_true, if_false, Int.reduceEq]
  have hn : takeNext x.line = 166 := by unfold takeNext; rw [hline]; rfl
  have ht : tyOf c.op = 119 := by unfold tyOf; rw [ho]; rfl
  refine ⟨(tkO 121 bh (mval 166 bt) (x.b - 1) t' v' [.bool got']), (tkO 121 bh (mval 167 bt) (x.b - 1) (wd m.words 0) v' [.bool got']), (hubO m.room (wd m.words 0) hl rank at_), none, none, false, { x with t := wd m.words 0, line := 5 }, c, ?_, ?_, ?_, ?_, ?_, ?_, ?_, ?_, ?_⟩
  · rw [ht, hstep]
    refine does_of W _ bt bh t m.moves m.words m.words m.trace (m.trace ++ [⟨m.moves, t, 1, 0, 0, 0, un (wd m.words 0)⟩]) (tkO 121 bh nx (x.b - 1) t' v' [.bool got']) (tkO 121 bh (mval 166 bt) (x.b - 1) t' v' [.bool got']) (tkO 121 bh (mval 167 bt) (x.b - 1) (wd m.words 0) v' [.bool got']) (hubO m.room (wd m.words 0) hl rank at_) (hubO m.room (wd m.words 0) hl rank at_) none none false ready 163 (fun hr => by rw [hr1 hr, hn]) (fun w => by kernel_rfl) (fun w => by kernel_rfl) (fun args w => by kernel_rfl) (fun hr => absurd (hr0 hr) (by omega)) ?_
    intro q w S F cs ss e1 e2 e3 e4 hE h
    subst e1; subst e2
    have key := callstep W w q m.words _ m.trace _ _ _ _ _ _ _ _ _ cs ss _ _ S F 166 false (fun args w => by kernel_rfl) hE h (take_look W w q m.words m.trace m.room (wd m.words 0) rank at_ hl cs ss S F _ (x.b - 1) t' v' got' (by omega) (hi.w64 0) hlog h0 hE h)
    rw [e3, e4] at key
    exact key
  · rw [hstep]; rfl
  · rw [hstep]; exact (self_set hc).symm
  · intro s; rfl
  · rw [hstep]; rfl
  · rw [hstep]; rfl
  · intro h; cases h
  · intro _; exact ⟨rfl, rfl, .inr (.inl ⟨ho, _, _, _, _, _, rfl, (fun h => by cases h), fun _ => rfl, (fun _ => rfl), (fun _ => rfl), (fun h => absurd h (by show ¬ (6 : Int) ≤ 5; omega)), (fun h => absurd h (by show ¬ (7 : Int) ≤ 5; omega))⟩)⟩
  · rw [hstep]
    refine ⟨hl, rank, at_, rfl, hd0, hd1, ?_⟩
    exact hf.kept (m' := _) hx hc (x' := { x with t := wd m.words 0, line := 5 }) (c' := c) rfl (self_set hc).symm rfl rfl rfl (by show wd m.words 0 ≤ wd m.words 0; omega) (fun _ _ _ => ⟨rfl, fun e => absurd e (by omega)⟩)

set_option maxHeartbeats 1000000 in
theorem tk_none (W : World) {m : DM} (hi : m.Inv) (_hmv : m.moves < 65536) {t : Nat} {x : Th} {c : ACall} {bt bh : Nat} {nx : Value} {t' v' : Int} {got' : Bool} {ready : Bool} {hl : Bool} {rank at_ : Int} (hx : m.all[t]? = some x) (_hb : 0 ≤ x.call) (hc : m.calls[x.call.toNat]? = some c) (ho : c.op = 91)
    (hline : x.line = 3) (hr0 : ready = false → x.line = 1) (hr1 : ready = true → nx = mval (takeNext x.line) bt) (h0 : x.b - 1 < wd m.words 0)
    (hd0 : m.down < 0 → hl = false) (hd1 : 0 ≤ m.down → rank = m.last ∧ at_ = m.down) (hf : FlagOK m hl) :
    StepOut W m t x c bt bh (tkO 121 bh nx (x.b - 1) t' v' [.bool got']) (hubO m.room (wd m.words 0) hl rank at_) ready := by
  have hl3 := hi.lens
  have htop := hi.top
  have hbot := hi.bot
  have hm0 := hi.mv
  have hlog : m.trace.length < 1048576 := by have := hi.ntrace; omega
  have hstep : m.step t = ((m.dload t 0).point x c m.moves).setTh t { x with t := wd m.words 0, line := 4 } := by
    rw [step_eq hx hc]
    unfold DM.take
    simp only [ho, hline, h0, if_true, if_false, Int.reduceEq]
  have hn : takeNext x.line = 166 := by unfold takeNext; rw [hline]; rfl
  have ht : tyOf c.op = 119 := by unfold tyOf; rw [ho]; rfl
  refine ⟨(tkO 121 bh (mval 166 bt) (x.b - 1) t' v' [.bool got']), (tkO 121 bh (mval 168 bt) (x.b - 1) (wd m.words 0) v' [.bool got']), (hubO m.room (wd m.words 0) hl rank at_), (some m.moves), none, false, { x with t := wd m.words 0, line := 4 }, { c with point := m.moves }, ?_, ?_, ?_, ?_, ?_, ?_, ?_, ?_, ?_⟩
  · rw [ht, hstep]
    refine does_of W _ bt bh t m.moves m.words m.words m.trace (m.trace ++ [⟨m.moves, t, 1, 0, 0, 0, un (wd m.words 0)⟩]) (tkO 121 bh nx (x.b - 1) t' v' [.bool got']) (tkO 121 bh (mval 166 bt) (x.b - 1) t' v' [.bool got']) (tkO 121 bh (mval 168 bt) (x.b - 1) (wd m.words 0) v' [.bool got']) (hubO m.room (wd m.words 0) hl rank at_) (hubO m.room (wd m.words 0) hl rank at_) (some m.moves) none false ready 163 (fun hr => by rw [hr1 hr, hn]) (fun w => by kernel_rfl) (fun w => by kernel_rfl) (fun args w => by kernel_rfl) (fun hr => absurd (hr0 hr) (by omega)) ?_
    intro q w S F cs ss e1 e2 e3 e4 hE h
    subst e1; subst e2
    have key := callstep W w q m.words _ m.trace _ _ _ _ _ _ _ _ _ cs ss _ _ S F 166 false (fun args w => by kernel_rfl) hE h (take_none W w q m.words m.trace m.room (wd m.words 0) rank at_ hl cs ss S F _ (x.b - 1) t' v' got' (by omega) (hi.w64 0) hlog h0 hE h)
    rw [e3, e4] at key
    exact key
  · rw [hstep]; rfl
  · rw [hstep]; rfl
  · intro s; rfl
  · rw [hstep]; rfl
  · rw [hstep]; rfl
  · intro h; cases h
  · intro _; exact ⟨rfl, rfl, .inr (.inl ⟨ho, _, _, _, _, _, rfl, (fun h => by cases h), fun _ => rfl, (fun _ => rfl), (fun _ => rfl), (fun h => absurd h (by show ¬ (6 : Int) ≤ 4; omega)), (fun h => absurd h (by show ¬ (7 : Int) ≤ 4; omega))⟩)⟩
  · rw [hstep]
    refine ⟨hl, rank, at_, rfl, hd0, hd1, ?_⟩
    exact hf.kept (m' := _) hx hc (x' := { x with t := wd m.words 0, line := 4 }) (c' := { c with point := m.moves }) rfl rfl rfl rfl rfl (by show wd m.words 0 ≤ wd m.words 0; omega) (fun _ _ _ => ⟨rfl, fun e => absurd e (by omega)⟩)

set_option maxHeartbeats 1000000 in
theorem tk_4 (W : World) {m : DM} (hi : m.Inv) (_hmv : m.moves < 65536) {t : Nat} {x : Th} {c : ACall} {bt bh : Nat} {nx : Value} {v' : Int} {got' : Bool} {ready : Bool} {hl : Bool} {rank at_ : Int} (hx : m.all[t]? = some x) (_hb : 0 ≤ x.call) (hc : m.calls[x.call.toNat]? = some c) (ho : c.op = 91)
    (hline : x.line = 4) (hr0 : ready = false → x.line = 1) (hr1 : ready = true → nx = mval (takeNext x.line) bt)
    (_hd0 : m.down < 0 → hl = false) (_hd1 : 0 ≤ m.down → rank = m.last ∧ at_ = m.down) (_hf : FlagOK m hl) :
    StepOut W m t x c bt bh (tkO 121 bh nx (x.b - 1) x.t v' [.bool got']) (hubO m.room (wd m.words 0) hl rank at_) ready := by
  have hl3 := hi.lens
  have htop := hi.top
  have hbot := hi.bot
  have hm0 := hi.mv
  have hlog : m.trace.length < 1048576 := by have := hi.ntrace; omega
  have f0 : wd (m.words.set 1 (x.t)) 0 = wd m.words 0 := by rw [wd_set, if_neg (by omega)]
  have hstep : m.step t = { (m.dstore t 1 x.t).fin t x c 3 0 with down := -1 } := by
    rw [step_eq hx hc]
    unfold DM.take
    simp only [ho, hline, if_true, if_false, Int.reduceEq]
  have hn : takeNext x.line = 168 := by unfold takeNext; rw [hline]; rfl
  have ht : tyOf c.op = 119 := by unfold tyOf; rw [ho]; rfl
  refine ⟨(tkO 121 bh (mval 168 bt) (x.b - 1) x.t v' [.bool got']), (tkO 121 bh (mval 168 bt) (x.b - 1) x.t v' [.bool got']), (hubO m.room (wd m.words 0) false rank at_), none, (some (3, 0)), true, { x with call := -1 }, { c with stop := m.moves, ak := 3, av := 0 }, ?_, ?_, ?_, ?_, ?_, ?_, ?_, ?_, ?_⟩
  · rw [ht, hstep]
    refine does_of W _ bt bh t m.moves m.words (m.words.set 1 x.t) m.trace (m.trace ++ [⟨m.moves, t, 2, 1, 0, un x.t, 0⟩]) (tkO 121 bh nx (x.b - 1) x.t v' [.bool got']) (tkO 121 bh (mval 168 bt) (x.b - 1) x.t v' [.bool got']) (tkO 121 bh (mval 168 bt) (x.b - 1) x.t v' [.bool got']) (hubO m.room (wd m.words 0) hl rank at_) (hubO m.room (wd m.words 0) false rank at_) none (some (3, 0)) true ready 163 (fun hr => by rw [hr1 hr, hn]) (fun w => by kernel_rfl) (fun w => by kernel_rfl) (fun args w => by kernel_rfl) (fun hr => absurd (hr0 hr) (by omega)) ?_
    intro q w S F cs ss e1 e2 e3 e4 hE h
    subst e1; subst e2
    have key := callstep W w q m.words _ m.trace _ _ _ _ _ _ _ _ _ cs ss _ _ S F 168 true (fun args w => by kernel_rfl) hE h (take_reset W w q m.words m.trace m.room (wd m.words 0) rank at_ hl cs ss S F _ (x.b - 1) x.t v' got' (by omega) hlog hE h)
    rw [e3, e4] at key
    exact key
  · rw [hstep]; rfl
  · rw [hstep]; rfl
  · intro s; rfl
  · rw [hstep]; rfl
  · rw [hstep]; rfl
  · intro _; show (-1 : Int) < 0; omega
  · intro h; cases h
  · rw [hstep]
    exact ⟨false, rank, at_, by show hubO m.room (wd m.words 0) false rank at_ = hubO m.room (wd (m.words.set 1 (x.t)) 0) false rank at_; rw [f0], fun _ => rfl, (fun h => absurd h (by show ¬ (0 : Int) ≤ -1; omega)), (fun h => absurd h (by show ¬ (0 : Int) ≤ -1; omega))⟩

set_option maxHeartbeats 1000000 in
theorem tk_more (W : World) {m : DM} (hi : m.Inv) (_hmv : m.moves < 65536) {t : Nat} {x : Th} {c : ACall} {bt bh : Nat} {nx : Value} {v' : Int} {got' : Bool} {ready : Bool} {hl : Bool} {rank at_ : Int} (hx : m.all[t]? = some x) (_hb : 0 ≤ x.call) (hc : m.calls[x.call.toNat]? = some c) (ho : c.op = 91)
    (hline : x.line = 5) (hr0 : ready = false → x.line = 1) (hr1 : ready = true → nx = mval (takeNext x.line) bt) (h0 : x.t < x.b - 1) (_h1 : 0 ≤ x.b - 1 ∧ x.b ≤ 65537)
    (_hd0 : m.down < 0 → hl = false) (_hd1 : 0 ≤ m.down → rank = m.last ∧ at_ = m.down) (_hf : FlagOK m hl) :
    StepOut W m t x c bt bh (tkO 121 bh nx (x.b - 1) x.t v' [.bool got']) (hubO m.room (wd m.words 0) hl rank at_) ready := by
  have hl3 := hi.lens
  have htop := hi.top
  have hbot := hi.bot
  have hm0 := hi.mv
  have hlog : m.trace.length < 1048576 := by have := hi.ntrace; omega
  have hstep : m.step t = { (m.dload t (2 + (x.b - 1) % m.room)).fin t { x with v := (wd m.words (2 + (x.b - 1) % m.room).toNat) } c 2 (wd m.words (2 + (x.b - 1) % m.room).toNat) with down := -1 } := by
    rw [step_eq hx hc]
    unfold DM.take
    simp only [ho, hline, h0, if_true, if_false, Int.reduceEq]
  have hn : takeNext x.line = 167 := by unfold takeNext; rw [hline]; rfl
  have ht : tyOf c.op = 119 := by unfold tyOf; rw [ho]; rfl
  refine ⟨(tkO 121 bh (mval 167 bt) (x.b - 1) x.t v' [.bool got']), (tkO 121 bh (mval 167 bt) (x.b - 1) x.t (wd m.words (2 + (x.b - 1) % m.room).toNat) [.bool got']), (hubO m.room (wd m.words 0) false rank at_), none, (some (2, (wd m.words (2 + (x.b - 1) % m.room).toNat))), true, { x with v := (wd m.words (2 + (x.b - 1) % m.room).toNat), call := -1 }, { c with stop := m.moves, ak := 2, av := (wd m.words (2 + (x.b - 1) % m.room).toNat) }, ?_, ?_, ?_, ?_, ?_, ?_, ?_, ?_, ?_⟩
  · rw [ht, hstep]
    refine does_of W _ bt bh t m.moves m.words m.words m.trace (m.trace ++ [⟨m.moves, t, 1, 2 + (x.b - 1) % m.room, 0, 0, un (wd m.words (2 + (x.b - 1) % m.room).toNat)⟩]) (tkO 121 bh nx (x.b - 1) x.t v' [.bool got']) (tkO 121 bh (mval 167 bt) (x.b - 1) x.t v' [.bool got']) (tkO 121 bh (mval 167 bt) (x.b - 1) x.t (wd m.words (2 + (x.b - 1) % m.room).toNat) [.bool got']) (hubO m.room (wd m.words 0) hl rank at_) (hubO m.room (wd m.words 0) false rank at_) none (some (2, (wd m.words (2 + (x.b - 1) % m.room).toNat))) true ready 163 (fun hr => by rw [hr1 hr, hn]) (fun w => by kernel_rfl) (fun w => by kernel_rfl) (fun args w => by kernel_rfl) (fun hr => absurd (hr0 hr) (by omega)) ?_
    intro q w S F cs ss e1 e2 e3 e4 hE h
    subst e1; subst e2
    have key := callstep W w q m.words _ m.trace _ _ _ _ _ _ _ _ _ cs ss _ _ S F 167 true (fun args w => by kernel_rfl) hE h (take_more W w q m.words m.trace m.room (wd m.words 0) rank at_ hl cs ss S F _ (x.b - 1) x.t v' got' (by omega) (by omega) hi.room.1 hi.room.2 hi.len hlog (hi.w64 _) h0 hE h)
    rw [e3, e4] at key
    exact key
  · rw [hstep]; rfl
  · rw [hstep]; rfl
  · intro s; rfl
  · rw [hstep]; rfl
  · rw [hstep]; rfl
  · intro _; show (-1 : Int) < 0; omega
  · intro h; cases h
  · rw [hstep]
    exact ⟨false, rank, at_, rfl, fun _ => rfl, (fun h => absurd h (by show ¬ (0 : Int) ≤ -1; omega)), (fun h => absurd h (by show ¬ (0 : Int) ≤ -1; omega))⟩

set_option maxHeartbeats 1000000 in
theorem tk_5 (W : World) {m : DM} (hi : m.Inv) (_hmv : m.moves < 65536) {t : Nat} {x : Th} {c : ACall} {bt bh : Nat} {nx : Value} {v' : Int} {got' : Bool} {ready : Bool} {hl : Bool} {rank at_ : Int} (hx : m.all[t]? = some x) (_hb : 0 ≤ x.call) (hc : m.calls[x.call.toNat]? = some c) (ho : c.op = 91)
    (hline : x.line = 5) (hr0 : ready = false → x.line = 1) (hr1 : ready = true → nx = mval (takeNext x.line) bt) (h0 : ¬ x.t < x.b - 1) (_h1 : 0 ≤ x.b - 1 ∧ x.b ≤ 65537)
    (hd0 : m.down < 0 → hl = false) (hd1 : 0 ≤ m.down → rank = m.last ∧ at_ = m.down) (hf : FlagOK m hl) :
    StepOut W m t x c bt bh (tkO 121 bh nx (x.b - 1) x.t v' [.bool got']) (hubO m.room (wd m.words 0) hl rank at_) ready := by
  have hl3 := hi.lens
  have htop := hi.top
  have hbot := hi.bot
  have hm0 := hi.mv
  have hlog : m.trace.length < 1048576 := by have := hi.ntrace; omega
  have hstep : m.step t = (m.dload t (2 + (x.b - 1) % m.room)).setTh t { x with v := (wd m.words (2 + (x.b - 1) % m.room).toNat), line := 6 } := by
    rw [step_eq hx hc]
    unfold DM.take
    simp only [ho, hline, h0, if_true, if_false, Int.reduceEq]
  have hn : takeNext x.line = 167 := by unfold takeNext; rw [hline]; rfl
  have ht : tyOf c.op = 119 := by unfold tyOf; rw [ho]; rfl
  refine ⟨(tkO 121 bh (mval 167 bt) (x.b - 1) x.t v' [.bool got']), (tkO 121 bh (mval 169 bt) (x.b - 1) x.t (wd m.words (2 + (x.b - 1) % m.room).toNat) [.bool got']), (hubO m.room (wd m.words 0) hl rank at_), none, none, false, { x with v := (wd m.words (2 + (x.b - 1) % m.room).toNat), line := 6 }, c, ?_, ?_, ?_, ?_, ?_, ?_, ?_, ?_, ?_⟩
  · rw [ht, hstep]
    refine does_of W _ bt bh t m.moves m.words m.words m.trace (m.trace ++ [⟨m.moves, t, 1, 2 + (x.b - 1) % m.room, 0, 0, un (wd m.words (2 + (x.b - 1) % m.room).toNat)⟩]) (tkO 121 bh nx (x.b - 1) x.t v' [.bool got']) (tkO 121 bh (mval 167 bt) (x.b - 1) x.t v' [.bool got']) (tkO 121 bh (mval 169 bt) (x.b - 1) x.t (wd m.words (2 + (x.b - 1) % m.room).toNat) [.bool got']) (hubO m.room (wd m.words 0) hl rank at_) (hubO m.room (wd m.words 0) hl rank at_) none none false ready 163 (fun hr => by rw [hr1 hr, hn]) (fun w => by kernel_rfl) (fun w => by kernel_rfl) (fun args w => by kernel_rfl) (fun hr => absurd (hr0 hr) (by omega)) ?_
    intro q w S F cs ss e1 e2 e3 e4 hE h
    subst e1; subst e2
    have key := callstep W w q m.words _ m.trace _ _ _ _ _ _ _ _ _ cs ss _ _ S F 167 false (fun args w => by kernel_rfl) hE h (take_read W w q m.words m.trace m.room (wd m.words 0) rank at_ hl cs ss S F _ (x.b - 1) x.t v' got' (by omega) (by omega) hi.room.1 hi.room.2 hi.len hlog (hi.w64 _) h0 hE h)
    rw [e3, e4] at key
    exact key
  · rw [hstep]; rfl
  · rw [hstep]; exact (self_set hc).symm
  · intro s; rfl
  · rw [hstep]; rfl
  · rw [hstep]; rfl
  · intro h; cases h
  · intro _; exact ⟨rfl, rfl, .inr (.inl ⟨ho, _, _, _, _, _, rfl, (fun h => by cases h), fun _ => rfl, (fun _ => rfl), (fun _ => rfl), (fun _ => rfl), (fun h => absurd h (by show ¬ (7 : Int) ≤ 6; omega))⟩)⟩
  · rw [hstep]
    refine ⟨hl, rank, at_, rfl, hd0, hd1, ?_⟩
    exact hf.kept (m' := _) hx hc (x' := { x with v := (wd m.words (2 + (x.b - 1) % m.room).toNat), line := 6 }) (c' := c) rfl (self_set hc).symm rfl rfl rfl (by show wd m.words 0 ≤ wd m.words 0; omega) (fun _ _ _ => ⟨rfl, fun e => absurd e (by omega)⟩)

set_option maxHeartbeats 1000000 in
theorem tk_won (W : World) {m : DM} (hi : m.Inv) (_hmv : m.moves < 65536) {t : Nat} {x : Th} {c : ACall} {bt bh : Nat} {nx : Value}  {got' : Bool} {ready : Bool} {hl : Bool} {rank at_ : Int} (hx : m.all[t]? = some x) (_hb : 0 ≤ x.call) (hc : m.calls[x.call.toNat]? = some c) (ho : c.op = 91)
    (hline : x.line = 6) (hr0 : ready = false → x.line = 1) (hr1 : ready = true → nx = mval (takeNext x.line) bt) (h0 : wd m.words 0 = x.t) (_h1 : 0 ≤ x.t ∧ x.t ≤ wd m.words 0)
    (hd0 : m.down < 0 → hl = false) (hd1 : 0 ≤ m.down → rank = m.last ∧ at_ = m.down) (hf : FlagOK m hl) :
    StepOut W m t x c bt bh (tkO 121 bh nx (x.b - 1) x.t x.v [.bool got']) (hubO m.room (wd m.words 0) hl rank at_) ready := by
  have hl3 := hi.lens
  have htop := hi.top
  have hbot := hi.bot
  have hm0 := hi.mv
  have hlog : m.trace.length < 1048576 := by have := hi.ntrace; omega
  have f0 : wd (m.words.set 0 (x.t + 1)) 0 = x.t + 1 := by rw [wd_set, if_pos ⟨rfl, by omega⟩]
  have hstep : m.step t = ({ m with words := m.words.set 0 (x.t + 1), trace := (m.trace ++ [⟨m.moves, t, 3, 0, un x.t, un (x.t + 1), un (wd m.words 0)⟩]) } : DM).setTh t { x with line := 7 } := by
    rw [step_eq hx hc]
    unfold DM.take
    simp only [ho, hline, eq_true h0, if_true, if_false, Int.reduceEq]
    unfold DM.dswap; rw [swp_yes h0]
  have hn : takeNext x.line = 169 := by unfold takeNext; rw [hline]; rfl
  have ht : tyOf c.op = 119 := by unfold tyOf; rw [ho]; rfl
  refine ⟨(tkO 121 bh (mval 169 bt) (x.b - 1) x.t x.v [.bool got']), (tkO 121 bh (mval 171 bt) (x.b - 1) x.t x.v [.bool true]), (hubO m.room (x.t + 1) hl rank at_), none, none, false, { x with line := 7 }, c, ?_, ?_, ?_, ?_, ?_, ?_, ?_, ?_, ?_⟩
  · rw [ht, hstep]
    refine does_of W _ bt bh t m.moves m.words (m.words.set 0 (x.t + 1)) m.trace (m.trace ++ [⟨m.moves, t, 3, 0, un x.t, un (x.t + 1), un (wd m.words 0)⟩]) (tkO 121 bh nx (x.b - 1) x.t x.v [.bool got']) (tkO 121 bh (mval 169 bt) (x.b - 1) x.t x.v [.bool got']) (tkO 121 bh (mval 171 bt) (x.b - 1) x.t x.v [.bool true]) (hubO m.room (wd m.words 0) hl rank at_) (hubO m.room (x.t + 1) hl rank at_) none none false ready 163 (fun hr => by rw [hr1 hr, hn]) (fun w => by kernel_rfl) (fun w => by kernel_rfl) (fun args w => by kernel_rfl) (fun hr => absurd (hr0 hr) (by omega)) ?_
    intro q w S F cs ss e1 e2 e3 e4 hE h
    subst e1; subst e2
    have key := callstep W w q m.words _ m.trace _ _ _ _ _ _ _ _ _ cs ss _ _ S F 169 false (fun args w => by kernel_rfl) hE h (take_won W w q m.words m.trace m.room (wd m.words 0) rank at_ hl cs ss S F _ (x.b - 1) x.t x.v got' (by omega) hlog (by omega) (by omega) h0 hE h)
    rw [e3, e4] at key
    exact key
  · rw [hstep]; rfl
  · rw [hstep]; exact (self_set hc).symm
  · intro s; rfl
  · rw [hstep]; rfl
  · rw [hstep]; rfl
  · intro h; cases h
  · intro _; exact ⟨rfl, rfl, .inr (.inl ⟨ho, _, _, _, _, _, rfl, (fun h => by cases h), fun _ => rfl, (fun _ => rfl), (fun _ => rfl), (fun _ => rfl), (fun _ => by show true = decide ((7 : Int) = 7); decide)⟩)⟩
  · rw [hstep]
    refine ⟨hl, rank, at_, by show hubO m.room (x.t + 1) hl rank at_ = hubO m.room (wd (m.words.set 0 (x.t + 1)) 0) hl rank at_; rw [f0], hd0, hd1, ?_⟩
    exact hf.kept (m' := _) hx hc (x' := { x with line := 7 }) (c' := c) rfl (self_set hc).symm rfl rfl rfl (by show wd m.words 0 ≤ wd (m.words.set 0 (x.t + 1)) 0; rw [f0]; omega) (fun _ _ _ => ⟨rfl, fun e => absurd e (by omega)⟩)

set_option maxHeartbeats 1000000 in
theorem tk_lost (W : World) {m : DM} (hi : m.Inv) (_hmv : m.moves < 65536) {t : Nat} {x : Th} {c : ACall} {bt bh : Nat} {nx : Value}  {got' : Bool} {ready : Bool} {hl : Bool} {rank at_ : Int} (hx : m.all[t]? = some x) (_hb : 0 ≤ x.call) (hc : m.calls[x.call.toNat]? = some c) (ho : c.op = 91)
    (hline : x.line = 6) (hr0 : ready = false → x.line = 1) (hr1 : ready = true → nx = mval (takeNext x.line) bt) (h0 : ¬ wd m.words 0 = x.t) (_h1 : 0 ≤ x.t ∧ x.t ≤ wd m.words 0)
    (hd0 : m.down < 0 → hl = false) (hd1 : 0 ≤ m.down → rank = m.last ∧ at_ = m.down) (hf : FlagOK m hl) :
    StepOut W m t x c bt bh (tkO 121 bh nx (x.b - 1) x.t x.v [.bool got']) (hubO m.room (wd m.words 0) hl rank at_) ready := by
  have hl3 := hi.lens
  have htop := hi.top
  have hbot := hi.bot
  have hm0 := hi.mv
  have hlog : m.trace.length < 1048576 := by have := hi.ntrace; omega
  have hstep : m.step t = (({ m with trace := (m.trace ++ [⟨m.moves, t, 3, 0, un x.t, un (x.t + 1), un (wd m.words 0)⟩]) } : DM).point x c m.moves).setTh t { x with line := 8 } := by
    rw [step_eq hx hc]
    unfold DM.take
    simp only [ho, hline, eq_false h0, if_true, if_false, Int.reduceEq]
    unfold DM.dswap; rw [swp_no h0]
  have hn : takeNext x.line = 169 := by unfold takeNext; rw [hline]; rfl
  have ht : tyOf c.op = 119 := by unfold tyOf; rw [ho]; rfl
  refine ⟨(tkO 121 bh (mval 169 bt) (x.b - 1) x.t x.v [.bool got']), (tkO 121 bh (mval 171 bt) (x.b - 1) x.t x.v [.bool false]), (hubO m.room (wd m.words 0) hl rank at_), (some m.moves), none, false, { x with line := 8 }, { c with point := m.moves }, ?_, ?_, ?_, ?_, ?_, ?_, ?_, ?_, ?_⟩
  · rw [ht, hstep]
    refine does_of W _ bt bh t m.moves m.words m.words m.trace (m.trace ++ [⟨m.moves, t, 3, 0, un x.t, un (x.t + 1), un (wd m.words 0)⟩]) (tkO 121 bh nx (x.b - 1) x.t x.v [.bool got']) (tkO 121 bh (mval 169 bt) (x.b - 1) x.t x.v [.bool got']) (tkO 121 bh (mval 171 bt) (x.b - 1) x.t x.v [.bool false]) (hubO m.room (wd m.words 0) hl rank at_) (hubO m.room (wd m.words 0) hl rank at_) (some m.moves) none false ready 163 (fun hr => by rw [hr1 hr, hn]) (fun w => by kernel_rfl) (fun w => by kernel_rfl) (fun args w => by kernel_rfl) (fun hr => absurd (hr0 hr) (by omega)) ?_
    intro q w S F cs ss e1 e2 e3 e4 hE h
    subst e1; subst e2
    have key := callstep W w q m.words _ m.trace _ _ _ _ _ _ _ _ _ cs ss _ _ S F 169 false (fun args w => by kernel_rfl) hE h (take_lost W w q m.words m.trace m.room (wd m.words 0) rank at_ hl cs ss S F _ (x.b - 1) x.t x.v got' (by omega) hlog (by omega) (by omega) h0 hE h)
    rw [e3, e4] at key
    exact key
  · rw [hstep]; rfl
  · rw [hstep]; rfl
  · intro s; rfl
  · rw [hstep]; rfl
  · rw [hstep]; rfl
  · intro h; cases h
  · intro _; exact ⟨rfl, rfl, .inr (.inl ⟨ho, _, _, _, _, _, rfl, (fun h => by cases h), fun _ => rfl, (fun _ => rfl), (fun _ => rfl), (fun _ => rfl), (fun _ => by show false = decide ((8 : Int) = 7); decide)⟩)⟩
  · rw [hstep]
    refine ⟨hl, rank, at_, rfl, hd0, hd1, ?_⟩
    exact hf.kept (m' := _) hx hc (x' := { x with line := 8 }) (c' := { c with point := m.moves }) rfl rfl rfl rfl rfl (by show wd m.words 0 ≤ wd m.words 0; omega) (fun _ _ _ => ⟨rfl, fun e => absurd e (by omega)⟩)

set_option maxHeartbeats 1000000 in
theorem tk_7 (W : World) {m : DM} (hi : m.Inv) (_hmv : m.moves < 65536) {t : Nat} {x : Th} {c : ACall} {bt bh : Nat} {nx : Value}  {ready : Bool} {hl : Bool} {rank at_ : Int} (hx : m.all[t]? = some x) (_hb : 0 ≤ x.call) (hc : m.calls[x.call.toNat]? = some c) (ho : c.op = 91)
    (hline : x.line = 7) (hr0 : ready = false → x.line = 1) (hr1 : ready = true → nx = mval (takeNext x.line) bt) (_h0 : 0 ≤ x.t ∧ x.t ≤ wd m.words 0)
    (_hd0 : m.down < 0 → hl = false) (_hd1 : 0 ≤ m.down → rank = m.last ∧ at_ = m.down) (_hf : FlagOK m hl) :
    StepOut W m t x c bt bh (tkO 121 bh nx (x.b - 1) x.t x.v [.bool true]) (hubO m.room (wd m.words 0) hl rank at_) ready := by
  have hl3 := hi.lens
  have htop := hi.top
  have hbot := hi.bot
  have hm0 := hi.mv
  have hlog : m.trace.length < 1048576 := by have := hi.ntrace; omega
  have f0 : wd (m.words.set 1 (x.t + 1)) 0 = wd m.words 0 := by rw [wd_set, if_neg (by omega)]
  have hstep : m.step t = { (m.dstore t 1 (x.t + 1)).fin t x c 2 x.v with down := -1 } := by
    rw [step_eq hx hc]
    unfold DM.take
    simp only [ho, hline, if_true, if_false, Int.reduceEq]
  have hn : takeNext x.line = 171 := by unfold takeNext; rw [hline]; rfl
  have ht : tyOf c.op = 119 := by unfold tyOf; rw [ho]; rfl
  refine ⟨(tkO 121 bh (mval 171 bt) (x.b - 1) x.t x.v [.bool true]), (tkO 121 bh (mval 171 bt) (x.b - 1) x.t x.v [.bool true]), (hubO m.room (wd m.words 0) false rank at_), none, (some (2, x.v)), true, { x with call := -1 }, { c with stop := m.moves, ak := 2, av := x.v }, ?_, ?_, ?_, ?_, ?_, ?_, ?_, ?_, ?_⟩
  · rw [ht, hstep]
    refine does_of W _ bt bh t m.moves m.words (m.words.set 1 (x.t + 1)) m.trace (m.trace ++ [⟨m.moves, t, 2, 1, 0, un (x.t + 1), 0⟩]) (tkO 121 bh nx (x.b - 1) x.t x.v [.bool true]) (tkO 121 bh (mval 171 bt) (x.b - 1) x.t x.v [.bool true]) (tkO 121 bh (mval 171 bt) (x.b - 1) x.t x.v [.bool true]) (hubO m.room (wd m.words 0) hl rank at_) (hubO m.room (wd m.words 0) false rank at_) none (some (2, x.v)) true ready 163 (fun hr => by rw [hr1 hr, hn]) (fun w => by kernel_rfl) (fun w => by kernel_rfl) (fun args w => by kernel_rfl) (fun hr => absurd (hr0 hr) (by omega)) ?_
    intro q w S F cs ss e1 e2 e3 e4 hE h
    subst e1; subst e2
    have key := callstep W w q m.words _ m.trace _ _ _ _ _ _ _ _ _ cs ss _ _ S F 171 true (fun args w => by kernel_rfl) hE h (take_end_yes W w q m.words m.trace m.room (wd m.words 0) rank at_ hl cs ss S F _ (x.b - 1) x.t x.v (by omega) hlog (by omega) hE h)
    rw [e3, e4] at key
    exact key
  · rw [hstep]; rfl
  · rw [hstep]; rfl
  · intro s; rfl
  · rw [hstep]; rfl
  · rw [hstep]; rfl
  · intro _; show (-1 : Int) < 0; omega
  · intro h; cases h
  · rw [hstep]
    exact ⟨false, rank, at_, by show hubO m.room (wd m.words 0) false rank at_ = hubO m.room (wd (m.words.set 1 (x.t + 1)) 0) false rank at_; rw [f0], fun _ => rfl, (fun h => absurd h (by show ¬ (0 : Int) ≤ -1; omega)), (fun h => absurd h (by show ¬ (0 : Int) ≤ -1; omega))⟩

set_option maxHeartbeats 1000000 in
theorem tk_8 (W : World) {m : DM} (hi : m.Inv) (_hmv : m.moves < 65536) {t : Nat} {x : Th} {c : ACall} {bt bh : Nat} {nx : Value}  {ready : Bool} {hl : Bool} {rank at_ : Int} (hx : m.all[t]? = some x) (_hb : 0 ≤ x.call) (hc : m.calls[x.call.toNat]? = some c) (ho : c.op = 91)
    (hline : x.line = 8) (hr0 : ready = false → x.line = 1) (hr1 : ready = true → nx = mval (takeNext x.line) bt) (_h0 : 0 ≤ x.t ∧ x.t ≤ wd m.words 0)
    (_hd0 : m.down < 0 → hl = false) (_hd1 : 0 ≤ m.down → rank = m.last ∧ at_ = m.down) (_hf : FlagOK m hl) :
    StepOut W m t x c bt bh (tkO 121 bh nx (x.b - 1) x.t x.v [.bool false]) (hubO m.room (wd m.words 0) hl rank at_) ready := by
  have hl3 := hi.lens
  have htop := hi.top
  have hbot := hi.bot
  have hm0 := hi.mv
  have hlog : m.trace.length < 1048576 := by have := hi.ntrace; omega
  have f0 : wd (m.words.set 1 (x.t + 1)) 0 = wd m.words 0 := by rw [wd_set, if_neg (by omega)]
  have hstep : m.step t = { (m.dstore t 1 (x.t + 1)).fin t x c 3 0 with down := -1 } := by
    rw [step_eq hx hc]
    unfold DM.take
    simp only [ho, hline, if_true, if_false, Int.reduceEq]
  have hn : takeNext x.line = 171 := by unfold takeNext; rw [hline]; rfl
  have ht : tyOf c.op = 119 := by unfold tyOf; rw [ho]; rfl
  refine ⟨(tkO 121 bh (mval 171 bt) (x.b - 1) x.t x.v [.bool false]), (tkO 121 bh (mval 171 bt) (x.b - 1) x.t x.v [.bool false]), (hubO m.room (wd m.words 0) false rank at_), none, (some (3, 0)), true, { x with call := -1 }, { c with stop := m.moves, ak := 3, av := 0 }, ?_, ?_, ?_, ?_, ?_, ?_, ?_, ?_, ?_⟩
  · rw [ht, hstep]
    refine does_of W _ bt bh t m.moves m.words (m.words.set 1 (x.t + 1)) m.trace (m.trace ++ [⟨m.moves, t, 2, 1, 0, un (x.t + 1), 0⟩]) (tkO 121 bh nx (x.b - 1) x.t x.v [.bool false]) (tkO 121 bh (mval 171 bt) (x.b - 1) x.t x.v [.bool false]) (tkO 121 bh (mval 171 bt) (x.b - 1) x.t x.v [.bool false]) (hubO m.room (wd m.words 0) hl rank at_) (hubO m.room (wd m.words 0) false rank at_) none (some (3, 0)) true ready 163 (fun hr => by rw [hr1 hr, hn]) (fun w => by kernel_rfl) (fun w => by kernel_rfl) (fun args w => by kernel_rfl) (fun hr => absurd (hr0 hr) (by omega)) ?_
    intro q w S F cs ss e1 e2 e3 e4 hE h
    subst e1; subst e2
    have key := callstep W w q m.words _ m.trace _ _ _ _ _ _ _ _ _ cs ss _ _ S F 171 true (fun args w => by kernel_rfl) hE h (take_end_no W w q m.words m.trace m.room (wd m.words 0) rank at_ hl cs ss S F _ (x.b - 1) x.t x.v (by omega) hlog (by omega) hE h)
    rw [e3, e4] at key
    exact key
  · rw [hstep]; rfl
  · rw [hstep]; rfl
  · intro s; rfl
  · rw [hstep]; rfl
  · rw [hstep]; rfl
  · intro _; show (-1 : Int) < 0; omega
  · intro h; cases h
  · rw [hstep]
    exact ⟨false, rank, at_, by show hubO m.room (wd m.words 0) false rank at_ = hubO m.room (wd (m.words.set 1 (x.t + 1)) 0) false rank at_; rw [f0], fun _ => rfl, (fun h => absurd h (by show ¬ (0 : Int) ≤ -1; omega)), (fun h => absurd h (by show ¬ (0 : Int) ≤ -1; omega))⟩

end Go.Proofs.Ythifeaigdobonaa
