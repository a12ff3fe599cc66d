/- The reference's machine of the deque: a step, a move. The reference's machine of the deque: a move. -/
import Derived.Test.YthifeaigdobonaaRft
import Derived.Test.YthifeaigdobonaaRfs
import Derived.Test.YthifeaigdobonaaRfu
namespace Go.Proofs.Ythifeaigdobonaa
open Go.RowKit

theorem RStep.of {m : DM} (hi : m.Inv) {t : Nat} {x : Th} {c : ACall} {k : Nat} (hx : m.all[t]? = some x) (hk : x.call = k) (hc : m.calls[k]? = some c) : RStep m t x c k := by
  have := hi.mv
  have := hi.ncalls
  have := hi.ntrace
  have := hi.top
  have := hi.bot
  exact ⟨hx, hk, hc, hi.nth.2, by omega, by omega, hi.len, hi.room, by omega, by omega, hi.mv⟩

section
variable (W w : World) (p : RSpot) (m : DM) (S F : Hp) (t : Nat) (x : Th) (c : ACall) (k : Nat)

/-- One of a step's three. -/
theorem ref_call (hi : m.Inv) (R : RStep m t x c k) (hS : RefAt p m S) (h : Holds W w (S + F)) :
    (c.op = 90 → Calls Try.prog 97 #[rptr p, .int .i64 (t : Int)] w (RfPost W p (m.push t x c) F (.tuple #[]))) ∧
    (c.op = 91 → Calls Try.prog 98 #[rptr p, .int .i64 (t : Int)] w (RfPost W p (m.take t x c) F (.tuple #[]))) ∧
    (c.op = 92 → Calls Try.prog 99 #[rptr p, .int .i64 (t : Int)] w (RfPost W p (m.steal t x c) F (.tuple #[]))) := by
  have hb : 0 ≤ x.call := by have := R.hk; omega
  obtain ⟨d, hd, hp⟩ := hi.ths t x R.hx hb
  have ek : x.call.toNat = k := by have := R.hk; omega
  rw [ek, R.hc] at hd; injection hd with hd; subst hd
  have top := R.top
  have bot := R.bot
  have low : t = 0 → x.line ≤ 2 ∨ c.op ≠ 91 → m.down < 0 := fun ht h2 => by
    rcases Int.lt_or_le m.down 0 with hd | hd
    · exact hd
    · obtain ⟨y, d, r1, r2, r3, r4, r5⟩ := hi.dn hd
      subst ht
      rw [R.hx] at r1; injection r1 with r1; subst r1
      rw [ek, R.hc] at r3; injection r3 with r3; subst r3
      omega
  refine ⟨fun o => ?_, fun o => ?_, fun o => ?_⟩
  · rcases hp with ⟨_, ht, l1, l2, p3⟩ | ⟨o2, _⟩ | ⟨o2, _⟩
    rotate_left
    · omega
    · omega
    have hb0 := hi.up (low ht (.inr (by omega)))
    by_cases q1 : x.line = 1
    · exact ref_push_1 W w p m S F t x c k R q1 hS h
    have hbb := p3 (by omega)
    by_cases q2 : x.line = 2
    · exact ref_push_2 W w p m S F t x c k R q2 hbb hS h
    by_cases q3 : x.line = 3
    · exact ref_push_3 W w p m S F t x c k R q3 (by omega) hS h
    · exact ref_push_4 W w p m S F t x c k R (by omega) (by omega) hS h
  · rcases hp with ⟨o2, _⟩ | ⟨_, ht, l1, l2, p2, p3, p4, p5⟩ | ⟨o2, _⟩
    · omega
    rotate_left
    · omega
    by_cases q1 : x.line = 1
    · exact ref_take_1 W w p m S F t x c k R q1 hS h
    by_cases q2 : x.line = 2
    · have := hi.up (low ht (.inl (by omega)))
      have := p2 q2
      exact ref_take_2 W w p m S F t x c k R q2 (by omega) hS h
    have h3 := p3 (by omega)
    by_cases q3 : x.line = 3
    · by_cases e : x.b - 1 < wd m.words 0
      · exact ref_take_3e W w p m S F t x c k R q3 (by omega) e hS h
      · exact ref_take_3n W w p m S F t x c k R q3 (by omega) e hS h
    have h4 := p4 (by omega)
    by_cases q4 : x.line = 4
    · exact ref_take_4 W w p m S F t x c k R q4 (by omega) hS h
    have h5 := p5 (by omega)
    by_cases q5 : x.line = 5
    · by_cases e : x.t < x.b - 1
      · exact ref_take_5d W w p m S F t x c k R q5 (by omega) e hS h
      · exact ref_take_5o W w p m S F t x c k R q5 (by omega) e hS h
    by_cases q6 : x.line = 6
    · by_cases e : wd m.words 0 = x.t
      · exact ref_take_6w W w p m S F t x c k R q6 (by omega) e hS h
      · exact ref_take_6l W w p m S F t x c k R q6 (by omega) e hS h
    by_cases q7 : x.line = 7
    · exact ref_take_7 W w p m S F t x c k R q7 (by omega) hS h
    · exact ref_take_8 W w p m S F t x c k R (by omega) (by omega) hS h
  · rcases hp with ⟨o2, _⟩ | ⟨o2, _⟩ | ⟨_, l1, l2, p2⟩
    · omega
    · omega
    by_cases q1 : x.line = 1
    · exact ref_steal_1 W w p m S F t x c k R q1 hS h
    have h2 := p2 (by omega)
    by_cases q2 : x.line = 2
    · by_cases e : wd m.words 1 ≤ x.t
      · exact ref_steal_2e W w p m S F t x c k R q2 (by omega) e hS h
      · exact ref_steal_2n W w p m S F t x c k R q2 (by omega) e hS h
    by_cases q3 : x.line = 3
    · exact ref_steal_3 W w p m S F t x c k R q3 (by omega) hS h
    by_cases e : wd m.words 0 = x.t
    · by_cases d1 : m.down < 0
      · exact ref_steal_4none W w p m S F t x c k R (by omega) (by omega) e d1 hS h
      · by_cases d2 : m.last = x.t
        · exact ref_steal_4down W w p m S F t x c k R (by omega) (by omega) e ⟨by omega, d2⟩ hS h
        · exact ref_steal_4other W w p m S F t x c k R (by omega) (by omega) e ⟨by omega, d2⟩ hS h
    · exact ref_steal_4l W w p m S F t x c k R (by omega) (by omega) e hS h

set_option maxHeartbeats 1000000 in
set_option maxRecDepth 100000 in
theorem ref_step (hi : m.Inv) (R : RStep m t x c k) (hS : RefAt p m S) (h : Holds W w (S + F)) : Calls Try.prog 82 #[rptr p, .int .i64 (t : Int)] w (RfPost W p (m.step t) F (.tuple #[])) := by
  have htl : t < m.all.length := (List.getElem?_eq_some_iff.1 R.hx).1
  have hcl : k < m.calls.length := (List.getElem?_eq_some_iff.1 R.hc).1
  have z0 : (0 : Int) ≤ (t : Int) := by omega
  have z1 : (t : Int) < (m.all.length : Int) := by omega
  have z2 : (0 : Int) ≤ (k : Int) := by omega
  have z3 : (k : Int) < (m.calls.length : Int) := by omega
  obtain ⟨wa, wc, ca, cc, ta, tc, c0, c1, c2, c3, c4, c5, c6, c7, c8, e0, e1, e2, e3, e4, hbr, hga, hne, fz, fa⟩ := hS.facts h R.hx
  obtain ⟨g, rfl, co, carg⟩ := hS.arg h R.hc c4
  rw [R.hk] at e0
  have hb : 0 ≤ x.call := by have := R.hk; omega
  obtain ⟨d, hd, hp⟩ := hi.ths t x R.hx hb
  have ek : x.call.toNat = k := by have := R.hk; omega
  have hop : c.op = 90 ∨ c.op = 91 ∨ c.op = 92 := by
    rw [ek, R.hc] at hd; injection hd with hd; subst hd
    rcases hp with ⟨o, _⟩ | ⟨o, _⟩ | ⟨o, _⟩ <;> omega
  have HI := Lib.hid hi
  have HS := Lib.hid hS
  have HH := Lib.hid h
  have hst : m.step t = (if c.op = 90 then m.push t x c else if c.op = 91 then m.take t x c else if c.op = 92 then m.steal t x c else m) := by unfold DM.step; simp only [DM.th_of R.hx, DM.call_of (show m.calls[x.call.toNat]? = some c by rw [ek]; exact R.hc)]
  have HST := Lib.hid hst
  clear hS h fz fa c0 c1 c2 c5 c6 c7 c8 e1 e2 e3 e4 carg ek hd hp hi hst
  unfold rptr
  rcases hop with o | o | o
  · rw [o] at co
    have O := Lib.hid o
    clear o
    go_enter Try.func82, Try.ntmps82
    go_wp2_with fail
    go_quiet (fail)
    go_wp2_with fail
    refine ((ref_call W _ p m S F t x c k HI.out R HS.out (HH.out.drewN nq)).1 O.out).mono ?_
    rintro e w1 ⟨rfl, S1, s1, h1⟩
    have Q : Hid (∃ S', RefAt p (m.step t) S' ∧ Holds W w1 (S' + F)) := by refine ⟨S1, ?_, h1⟩; rw [HST.out, if_pos O.out]; exact s1
    clear s1 h1
    go_wp2_with fail
    go_end0
    exact ⟨rfl, Q.out⟩
  · rw [o] at co
    have O := Lib.hid o
    clear o
    go_enter Try.func82, Try.ntmps82
    go_wp2_with fail
    go_quiet (fail)
    go_wp2_with fail
    refine ((ref_call W _ p m S F t x c k HI.out R HS.out (HH.out.drewN nq)).2.1 O.out).mono ?_
    rintro e w1 ⟨rfl, S1, s1, h1⟩
    have Q : Hid (∃ S', RefAt p (m.step t) S' ∧ Holds W w1 (S' + F)) := by refine ⟨S1, ?_, h1⟩; rw [HST.out, if_neg (by have := O.out; omega), if_pos O.out]; exact s1
    clear s1 h1
    go_wp2_with fail
    go_end0
    exact ⟨rfl, Q.out⟩
  · rw [o] at co
    have O := Lib.hid o
    clear o
    go_enter Try.func82, Try.ntmps82
    go_wp2_with fail
    go_quiet (fail)
    go_wp2_with fail
    refine ((ref_call W _ p m S F t x c k HI.out R HS.out (HH.out.drewN nq)).2.2 O.out).mono ?_
    rintro e w1 ⟨rfl, S1, s1, h1⟩
    have Q : Hid (∃ S', RefAt p (m.step t) S' ∧ Holds W w1 (S' + F)) := by refine ⟨S1, ?_, h1⟩; rw [HST.out, if_neg (by have := O.out; omega), if_neg (by have := O.out; omega), if_pos O.out]; exact s1
    clear s1 h1
    go_wp2_with fail
    go_end0
    exact ⟨rfl, Q.out⟩
end

end Go.Proofs.Ythifeaigdobonaa

namespace Go.Proofs.Ythifeaigdobonaa
open Go.RowKit

/-- The calls' row taken out, as an append wants it. -/
theorem RefAt.readyCall {W w : World} {p : RSpot} {m : DM} {S F : Hp} (hS : RefAt p m S) (h : Holds W w (S + F)) :
    ∃ ca cc Sc G, w.cell? ⟨p.br, 4, none⟩ = some (.slice ca m.calls.length cc) ∧ w.cell? ⟨p.br, 6, none⟩ = some (.int .i64 m.moves) ∧ RowAt 66 9 (.slice ca m.calls.length cc) m.calls.length (rows encCall m.calls) Sc ∧ Holds W w (Sc + (G + F)) ∧ p.br < w.heap.size ∧
      ∀ (a : ACall) (cv' : Value) (Sc' : Hp), RowAt 66 9 cv' (m.calls.length + 1) (rows encCall m.calls ++ encCall a) Sc' → ∀ {W w F}, Holds W w (Sc' + (G + F)) →
        w.cell? ⟨p.br, 4, none⟩ = some (.slice ca m.calls.length cc) ∧ w.cell? ⟨p.br, 6, none⟩ = some (.int .i64 m.moves) ∧ w.frozen? ⟨p.br, 4, none⟩ = false ∧ ∃ S', RefAt p { m with calls := m.calls ++ [a] } S' ∧ Holds W (w.setCell ⟨p.br, 4, none⟩ cv') (S' + F) := by
  obtain ⟨wv, cv, tv, Sw, Sc, St, q1, q2, q3, rfl⟩ := hS
  obtain ⟨ca, cc, rfl⟩ := q2.form
  have h0 := h.of_eq (Hp.add_assoc _ _ _)
  unfold refO at h0
  refine ⟨ca, cc, Sc, pt p.br (refO p m.all.length m.room wv (.slice ca m.calls.length cc) tv m.moves m.down m.last) + (pt p.ga (.cells (arr encTh m.all p.rest) 50 (0, 0)) + (Sw + St)), by rw [h0.cell]; rfl, by rw [h0.cell]; rfl, q2, h.of_eq (by ac_rfl), h0.lt, fun a cv' Sc' hr {W w F} h => ?_⟩
  have h1 := h.of_eq (show _ = pt p.br (refO p m.all.length m.room wv (.slice ca m.calls.length cc) tv m.moves m.down m.last) + (Sc' + (pt p.ga (.cells (arr encTh m.all p.rest) 50 (0, 0)) + (Sw + St)) + F) from by ac_rfl)
  unfold refO at h1
  refine ⟨by rw [h1.cell]; rfl, by rw [h1.cell]; rfl, h1.free 4, _, ⟨wv, cv', tv, Sw, Sc', St, q1, ?_, q3, rfl⟩, (h1.set 4 cv').of_eq ?_⟩
  · have e1 : (m.calls ++ [a]).length = m.calls.length + 1 := by simp
    have e2 : rows encCall (m.calls ++ [a]) = rows encCall m.calls ++ encCall a := by simp [rows]
    rw [e1, e2]; exact hr
  · unfold refO
    simp only [List.setIfInBounds_toArray, List.set_cons_zero, List.set_cons_succ]
    ac_rfl

theorem RefAt.setMoves {W w : World} {p : RSpot} {m : DM} {S F : Hp} (hS : RefAt p m S) (h : Holds W w (S + F)) (v : Int) : ∃ S', RefAt p { m with moves := v } S' ∧ Holds W (w.setCell ⟨p.br, 6, none⟩ (.int .i64 v)) (S' + F) := by
  obtain ⟨wv, cv, tv, Sw, Sc, St, q1, q2, q3, rfl⟩ := hS
  have h1 := h.of_eq (Hp.add_assoc _ _ _)
  unfold refO at h1
  exact ⟨_, ⟨wv, cv, tv, Sw, Sc, St, q1, q2, q3, rfl⟩, (h1.set 6 (.int .i64 v)).of_eq (by unfold refO; simp only [List.setIfInBounds_toArray, List.set_cons_zero, List.set_cons_succ]; ac_rfl)⟩

/-- A thread's whole entry turned. -/
theorem RefAt.newTh {W w : World} {p : RSpot} {m : DM} {S F : Hp} (hS : RefAt p m S) (h : Holds W w (S + F)) {t : Nat} {x : Th} (hx : m.all[t]? = some x) (y : Th) :
    ∃ S', RefAt p (m.setTh t y) S' ∧ Holds W (((((w.setCell ⟨p.ga, t * 5, none⟩ (.int .i64 y.call)).setCell ⟨p.ga, t * 5 + 1, none⟩ (.int .i64 y.line)).setCell ⟨p.ga, t * 5 + 2, none⟩ (.int .i64 y.b)).setCell ⟨p.ga, t * 5 + 3, none⟩ (.int .i64 y.t)).setCell ⟨p.ga, t * 5 + 4, none⟩ (.int .i64 y.v)) (S' + F) := by
  obtain ⟨S1, s1, h1⟩ := hS.one h hx 0 (.int .i64 y.call) { x with call := y.call } (by decide) rfl
  obtain ⟨S2, s2, h2⟩ := s1.one h1 (get_set hx _) 1 (.int .i64 y.line) { x with call := y.call, line := y.line } (by decide) rfl
  obtain ⟨S3, s3, h3⟩ := s2.one h2 (get_set (get_set hx _) _) 2 (.int .i64 y.b) { x with call := y.call, line := y.line, b := y.b } (by decide) rfl
  obtain ⟨S4, s4, h4⟩ := s3.one h3 (get_set (get_set (get_set hx _) _) _) 3 (.int .i64 y.t) { x with call := y.call, line := y.line, b := y.b, t := y.t } (by decide) rfl
  obtain ⟨S5, s5, h5⟩ := s4.one h4 (get_set (get_set (get_set (get_set hx _) _) _) _) 4 (.int .i64 y.v) y (by decide) rfl
  rw [setTh_setTh, setTh_setTh, setTh_setTh, setTh_setTh] at s5
  exact ⟨S5, s5, h5⟩

def mvArg (v : DM.Mv) : Value := .agg #[.int .i64 v.thread, .int .i64 v.op, .int .i64 v.arg, .int .i64 v.data]
def mbox (w : World) (v : DM.Mv) : Hp := pt w.heap.size (.cells (encMv v).toArray 27 (0, 0))

section
variable (W w : World) (p : RSpot) (m : DM) (S F : Hp) (t : Nat) (x : Th) (v : DM.Mv)

set_option maxHeartbeats 1000000 in
set_option maxRecDepth 100000 in
theorem ref_move_out (ho : v.thread < 0 ∨ (m.all.length : Int) ≤ v.thread) (_hn : m.all.length ≤ 16) (hS : RefAt p m S) (h : Holds W w (S + F)) : Calls Try.prog 56 #[rptr p, mvArg v] w (RfPost W p m F (.bool false)) := by
  obtain ⟨wa, wc, ca, cc, ta, tc, c0, c1, c2, c3, c4, c5, c6, c7, c8, fz, hbr⟩ := hS.cells h
  have HH : Hid (Holds W (w.alloc (.cells (encMv v).toArray 27 (0, 0))) (S + F)) := (h.alloc _).right
  have HS := Lib.hid hS
  clear c1 c2 c3 c4 c5 c6 c7 c8 fz hS h
  unfold rptr mvArg
  rcases Int.lt_or_le v.thread 0 with q | q
  · have d0 : decide (v.thread < 0) = true := decide_eq_true q
    clear ho
    go_enter Try.func56, Try.ntmps56
    go_wp2_with fail
    go_ret
    exact ⟨rfl, S, HS.out, HH.out⟩
  · have d0 : decide (v.thread < 0) = false := decide_eq_false (by omega)
    have d1 : decide ((m.all.length : Int) ≤ v.thread) = true := decide_eq_true (by omega)
    clear ho
    go_enter Try.func56, Try.ntmps56
    go_wp2_with fail
    go_ret
    exact ⟨rfl, S, HS.out, HH.out⟩

set_option maxHeartbeats 1000000 in
set_option maxRecDepth 100000 in
theorem ref_move_step (hi : m.Inv) (hx : m.all[t]? = some x) (hv : v.thread = t) (hop : v.op = 0) (hS : RefAt p m S) (h : Holds W w (S + F)) :
    Calls Try.prog 56 #[rptr p, mvArg v] w (RfPost W p (if x.call < 0 then m else m.step t) F (.bool (decide (0 ≤ x.call)))) := by
  obtain ⟨wa, wc, ca, cc, ta, tc, c0, c1, c2, c3, c4, c5, c6, c7, c8, e0, e1, e2, e3, e4, hbr, hga, hne, fz, fa⟩ := hS.facts h hx
  have htl : t < m.all.length := (List.getElem?_eq_some_iff.1 hx).1
  have z0 : (0 : Int) ≤ (t : Int) := by omega
  have z1 : (t : Int) < (m.all.length : Int) := by omega
  have z1' : t < m.all.length := htl
  have d0 : decide ((t : Int) < 0) = false := by simp
  have d1 : decide ((m.all.length : Int) ≤ (t : Int)) = false := decide_eq_false (by omega)
  have d2 : decide (m.all.length ≤ t) = false := decide_eq_false (by omega)
  have hm : mvArg v = .agg #[.int .i64 (t : Int), .int .i64 0, .int .i64 v.arg, .int .i64 v.data] := by unfold mvArg; rw [hv, hop]
  rw [hm]
  have HI := Lib.hid hi
  have HX := Lib.hid hx
  have HH : Hid (Holds W (w.alloc (.cells #[.int .i64 (t : Int), .int .i64 0, .int .i64 v.arg, .int .i64 v.data] 27 (0, 0))) (S + F)) := (h.alloc _).right
  have HS := Lib.hid hS
  clear c1 c2 c4 c5 c6 c7 c8 fz fa hS h e1 e2 e3 e4 hi hx hv hop hm
  unfold rptr
  by_cases hb : x.call < 0
  · have e : decide (0 ≤ x.call) = false := decide_eq_false (by omega)
    have E := Lib.hid e
    rw [if_pos hb]
    clear hb
    go_enter Try.func56, Try.ntmps56
    go_wp2_with fail
    go_ret
    exact ⟨by rw [E.out]; rfl, S, HS.out, HH.out⟩
  · have e : decide (0 ≤ x.call) = true := decide_eq_true (by omega)
    have E := Lib.hid e
    rw [if_neg hb]
    obtain ⟨k, hk⟩ := Int.eq_ofNat_of_zero_le (show 0 ≤ x.call by omega)
    obtain ⟨c, hc, _⟩ := HI.out.ths t x HX.out (by omega)
    have hR := RStep.of HI.out HX.out hk (by rw [hk] at hc; exact hc)
    clear hb hk hc
    go_enter Try.func56, Try.ntmps56
    go_wp2_with fail
    refine (ref_step W _ p m S F t x c k HI.out hR HS.out HH.out).mono ?_
    rintro e w1 ⟨rfl, S1, s1, h1⟩
    have Q : Hid (∃ S', RefAt p (m.step t) S' ∧ Holds W w1 (S' + F)) := ⟨S1, s1, h1⟩
    clear s1 h1
    go_wp2_with fail
    go_ret
    exact ⟨by rw [E.out]; rfl, Q.out⟩
end

end Go.Proofs.Ythifeaigdobonaa
