/- A step of a call, whichever it is: the program's task does what the plain machine DM does. -/
import Derived.Test.YthifeaigdobonaaPrc
namespace Go.Proofs.Ythifeaigdobonaa
open Go.RowKit DM

theorem step_out (W : World) {m : DM} (hi : m.Inv) (hmv : m.moves < 65536) {t : Nat} {x : Th} {c : ACall} {bt bh : Nat} {o hub : Obj} {ready : Bool} (hx : m.all[t]? = some x) (hb : 0 ≤ x.call) (hc : m.calls[x.call.toNat]? = some c)
    (hT : TaskOK bh bt c x ready o) (hH : HubOK m hub) : StepOut W m t x c bt bh o hub ready := by
  obtain ⟨hl, rank, at_, rfl, hd0, hd1, hf⟩ := hH
  obtain ⟨c2, hc2, hp⟩ := hi.ths t x hx hb
  rw [hc] at hc2; injection hc2 with hc2; subst hc2
  have htop := hi.top
  have hbot := hi.bot
  have hm0 := hi.mv
  rcases hT with ⟨ho, nx, b, t', rfl, hr0, hr1, e2⟩ | ⟨ho, nx, b, t', v', got, rfl, hr0, hr1, e2, e4, e6, e7⟩ | ⟨ho, nx, b, t', v', rfl, hr0, hr1, e2, e4⟩
  · rcases hp with ⟨_, rfl, l1, l2, p3⟩ | ⟨o2, _⟩ | ⟨o2, _⟩
    · have hdn : m.down < 0 := by
        rcases Int.lt_or_le m.down 0 with hd | hd
        · exact hd
        · obtain ⟨y, d, r1, r2, r3, r4, r5⟩ := hi.dn hd
          rw [hx] at r1; injection r1 with r1; subst r1
          rw [hc] at r3; injection r3 with r3; subst r3
          omega
      have hb0 := hi.up hdn
      by_cases q1 : x.line = 1
      · exact ps_1 W hi hmv hx hb hc ho q1 hr0 hr1 hd0 hd1 hf
      have hbe := e2 (by omega)
      have p3' := p3 (by omega)
      subst hbe
      by_cases q2 : x.line = 2
      · by_cases q3 : m.room ≤ x.b - wd m.words 0
        · exact ps_full W hi hmv hx hb hc ho q2 hr0 hr1 q3 (by omega) hd0 hd1 hf
        · exact ps_2 W hi hmv hx hb hc ho q2 hr0 hr1 q3 (by omega) hd0 hd1 hf
      by_cases q3 : x.line = 3
      · exact ps_3 W hi hmv hx hb hc ho q3 hr0 hr1 (by omega) hd0 hd1 hf
      · exact ps_4 W hi hmv hx hb hc ho (by omega) hr0 hr1 (by omega) hd0 hd1 hf
    · omega
    · omega
  · rcases hp with ⟨o2, _⟩ | ⟨_, rfl, l1, l2, p2, p3, p4, p5⟩ | ⟨o2, _⟩
    · omega
    · by_cases q1 : x.line = 1
      · exact tk_1 W hi hmv hx hb hc ho q1 hr0 hr1 hd0 hd1 hf
      have hbe := e2 (by omega)
      subst hbe
      by_cases q2 : x.line = 2
      · exact tk_2 W hi hmv hx hb hc ho q2 hr0 hr1 hd0 hd1 hf
      have p3' := p3 (by omega)
      by_cases q3 : x.line = 3
      · by_cases q4 : x.b - 1 < wd m.words 0
        · exact tk_none W hi hmv hx hb hc ho q3 hr0 hr1 q4 hd0 hd1 hf
        · exact tk_3 W hi hmv hx hb hc ho q3 hr0 hr1 q4 hd0 hd1 hf
      have p4' := p4 (by omega)
      have hte := e4 (by omega)
      subst hte
      by_cases q4 : x.line = 4
      · exact tk_4 W hi hmv hx hb hc ho q4 hr0 hr1 hd0 hd1 hf
      have p5' := p5 (by omega)
      by_cases q5 : x.line = 5
      · by_cases q6 : x.t < x.b - 1
        · exact tk_more W hi hmv hx hb hc ho q5 hr0 hr1 q6 (by omega) hd0 hd1 hf
        · exact tk_5 W hi hmv hx hb hc ho q5 hr0 hr1 q6 (by omega) hd0 hd1 hf
      have hve := e6 (by omega)
      subst hve
      by_cases q6 : x.line = 6
      · by_cases q7 : wd m.words 0 = x.t
        · exact tk_won W hi hmv hx hb hc ho q6 hr0 hr1 q7 p4' hd0 hd1 hf
        · exact tk_lost W hi hmv hx hb hc ho q6 hr0 hr1 q7 p4' hd0 hd1 hf
      have hg := e7 (by omega)
      by_cases q7 : x.line = 7
      · rw [q7] at hg
        have hg : got = true := by rw [hg]; decide
        subst hg
        exact tk_7 W hi hmv hx hb hc ho q7 hr0 hr1 p4' hd0 hd1 hf
      · have q8 : x.line = 8 := by omega
        rw [q8] at hg
        have hg : got = false := by rw [hg]; decide
        subst hg
        exact tk_8 W hi hmv hx hb hc ho q8 hr0 hr1 p4' hd0 hd1 hf
    · omega
  · rcases hp with ⟨o2, _⟩ | ⟨o2, _⟩ | ⟨_, l1, l2, p2⟩
    · omega
    · omega
    · by_cases q1 : x.line = 1
      · exact st_1 W hi hmv hx hb hc ho q1 hr0 hr1 hd0 hd1 hf
      have hte := e2 (by omega)
      have p2' := p2 (by omega)
      subst hte
      by_cases q2 : x.line = 2
      · by_cases q3 : wd m.words 1 ≤ x.t
        · exact st_none W hi hmv hx hb hc ho q2 hr0 hr1 q3 hd0 hd1 hf
        · exact st_2 W hi hmv hx hb hc ho q2 hr0 hr1 q3 hd0 hd1 hf
      by_cases q3 : x.line = 3
      · exact st_3 W hi hmv hx hb hc ho q3 hr0 hr1 p2' hd0 hd1 hf
      have hve := e4 (by omega)
      subst hve
      have q4 : x.line = 4 := by omega
      by_cases q5 : wd m.words 0 = x.t
      · cases hl with
        | false =>
          refine st_won_off W hi hmv hx hb hc ho q4 hr0 hr1 q5 p2' (fun e => ?_) hd0 hd1 hf
          have := hf e.1 rfl t x c hx hb hc ho (by omega) e.2.symm
          omega
        | true =>
          by_cases q6 : 0 ≤ m.down ∧ m.last = x.t
          · exact st_won_back W hi hmv hx hb hc ho q4 hr0 hr1 q5 p2' q6 hd0 hd1 hf
          · exact st_won_far W hi hmv hx hb hc ho q4 hr0 hr1 q5 p2' q6 hd0 hd1 hf
      · exact st_lost W hi hmv hx hb hc ho q4 hr0 hr1 q5 p2' hd0 hd1 hf

end Go.Proofs.Ythifeaigdobonaa
