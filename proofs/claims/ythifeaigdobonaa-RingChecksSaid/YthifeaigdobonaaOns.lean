/- The deque's values, through a step of a call. Plain Lean. -/
import Derived.Test.YthifeaigdobonaaOnp
namespace Go.Proofs.Ythifeaigdobonaa
namespace DM

theorem end_neg {words : List Int} {d l : Int} (h : d < 0) : endOf words d l = wd words 1 := by unfold endOf; rw [if_neg (by omega)]
theorem end_pos {words : List Int} {d l : Int} (h : 0 ≤ d) : endOf words d l = l + 1 := by unfold endOf; rw [if_pos h]

/-- What a step of a call that goes on leaves of the values. -/
theorem cons_same {m : DM} (h : m.Deep) {x : Th} {c c' : ACall} (hc : m.calls[x.call.toNat]? = some c) (h1 : c.ak = 0) (h2 : c'.ak ≠ 1) (h3 : c'.ak ≠ 2) {words' : List Int} {fl : List Int} {top' e' : Int}
    (hv : (flight m.all m.down ++ valsOf m.words m.room (wd m.words 0) (endOf m.words m.down m.last)).Perm (fl ++ valsOf words' m.room top' e')) :
    ((m.calls.set x.call.toNat c').filterMap insF).Perm ((m.calls.set x.call.toNat c').filterMap outF ++ (fl ++ valsOf words' m.room top' e')) := by
  rw [fm_none hc (insF_no (by omega)) (insF_no h2), fm_none hc (outF_no (by omega)) (outF_no h3)]
  exact h.cons.trans (List.Perm.append_left _ hv)

/-- What the end of a call that got a value leaves of the values. -/
theorem cons_out {m : DM} (h : m.Deep) {x : Th} {c c' : ACall} {v : Int} (hc : m.calls[x.call.toNat]? = some c) (h1 : c.ak = 0) (h2 : c'.ak = 2) (h3 : c'.op ≠ 90) (h4 : c'.av = v) {words' : List Int} {fl : List Int} {top' e' : Int}
    (hv : (flight m.all m.down ++ valsOf m.words m.room (wd m.words 0) (endOf m.words m.down m.last)).Perm (v :: (fl ++ valsOf words' m.room top' e'))) :
    ((m.calls.set x.call.toNat c').filterMap insF).Perm ((m.calls.set x.call.toNat c').filterMap outF ++ (fl ++ valsOf words' m.room top' e')) := by
  rw [fm_none hc (insF_no (by omega)) (insF_no (by omega))]
  refine h.cons.trans ((List.Perm.append_left _ hv).trans ?_)
  refine List.perm_middle.trans ?_
  exact List.Perm.append_right _ (fm_some hc (outF_no (by omega)) (by unfold outF; rw [if_pos ⟨h3, h2⟩, h4])).symm

set_option maxHeartbeats 1000000 in
theorem Deep.push {m : DM} (h : m.Deep) (hmv : m.moves < 65536) {x : Th} {c : ACall} (hB : Busy m.all m.calls 0 x c) (o : c.op = 90) : Deep { m.push 0 x c with moves := m.moves + 1 } := by
  have hD := h.ths 0 x c hB
  obtain ⟨hx, hb, hc⟩ := hB
  obtain ⟨d, hc2, hp⟩ := h.inv.ths 0 x hx hb
  rw [hc] at hc2; injection hc2 with hc2; subst hc2
  rcases hp with ⟨_, _, l1, l2, p3⟩ | ⟨o2, _⟩ | ⟨o2, _⟩
  rotate_left
  · omega
  · omega
  have hi := h.inv
  have hI := hi.stepped hmv hx hb
  rw [show m.step 0 = m.push 0 x c from by unfold DM.step; simp only [th_of hx, call_of hc]; rw [if_pos o]] at hI
  have hlt : 0 < m.all.length := hi.nth.1
  have hr := hi.room
  have hl := hi.lens
  have hm0 := hi.mv
  have no : ¬ (0 : Int) ≤ -1 := by omega
  have self : m.calls.set x.call.toNat c = m.calls := by
    obtain ⟨hlt, he⟩ := List.getElem?_eq_some_iff.1 hc
    rw [← he]; exact List.set_getElem_self hlt
  have hdn : m.down < 0 := by
    rcases Int.lt_or_le m.down 0 with hd | hd
    · exact hd
    · obtain ⟨y, d, hY, r4, _⟩ := h.down hd
      obtain ⟨r1, _, r3⟩ := hY
      rw [hx] at r1; injection r1 with r1; subst r1
      rw [hc] at r3; injection r3 with r3; subst r3
      omega
  have eE := end_neg (words := m.words) (l := m.last) hdn
  have hle := h.le
  have hsz := h.size
  have fl0 := flight_neg (all := m.all) hdn
  have hak := hD.fresh
  unfold DM.push at hI ⊢
  by_cases q1 : x.line = 1
  · rw [if_pos q1] at hI ⊢
    have key := h.step (x' := { x with b := wd m.words 1, line := 2 }) (c' := c) (words' := m.words) (acc := ⟨m.moves, (0 : Nat), 1, 1, 0, 0, un (wd m.words 1)⟩) (down' := m.down) (last' := m.last) hx hb hc (by rw [self]; exact hI)
      (fun _ => ⟨rfl, hak, fun e => by omega, fun e => by omega, fun _ e => absurd e (by show ¬ (3 : Int) ≤ 2; omega), fun _ e => absurd e (by show ¬ (2 : Int) = 4; omega), fun e => by omega, fun e => by omega, fun e => by omega, fun e => by omega⟩) (fun e => by have e : x.call < 0 := e; omega)
      (fun t2 y d _ hY => h.ths t2 y d hY) hle hsz (fun e => by omega) (by rw [self, flight_neg hdn, ← fl0]; exact h.cons)
    rw [self] at key; exact key
  rw [if_neg q1] at hI ⊢
  have hbb := p3 (by omega)
  by_cases q2 : x.line = 2
  · rw [if_pos q2] at hI ⊢
    by_cases q3 : m.room ≤ x.b - wd m.words 0
    · rw [if_pos q3] at hI ⊢
      exact h.step (x := x) (x' := { x with t := wd m.words 0, call := -1 }) (c' := { c with point := m.moves, stop := m.moves, ak := 4, av := 0 }) (words' := m.words) (acc := ⟨m.moves, (0 : Nat), 1, 0, 0, 0, un (wd m.words 0)⟩) (down' := m.down) (last' := m.last) hx hb hc hI
        (fun e => absurd e no) (fun _ => hm0.1) (fun t2 y d _ hY => h.ths t2 y d hY) hle hsz (fun e => by omega)
        (cons_same h hc hak.1 (by show ¬ (4 : Int) = 1; omega) (by show ¬ (4 : Int) = 2; omega) (by rw [fl0, flight_neg hdn]))
    · rw [if_neg q3] at hI ⊢
      have key := h.step (x := x) (x' := { x with t := wd m.words 0, line := 3 }) (c' := c) (words' := m.words) (acc := ⟨m.moves, (0 : Nat), 1, 0, 0, 0, un (wd m.words 0)⟩) (down' := m.down) (last' := m.last) hx hb hc (by rw [self]; exact hI)
        (fun _ => ⟨rfl, hak, fun e => by omega, fun e => by omega, fun _ _ => by show x.b - _ < _; omega, fun _ e => absurd e (by show ¬ (3 : Int) = 4; omega), fun e => by omega, fun e => by omega, fun e => by omega, fun e => by omega⟩) (fun e => by have e : x.call < 0 := e; omega)
        (fun t2 y d _ hY => h.ths t2 y d hY) hle hsz (fun e => by omega) (by rw [self, flight_neg hdn, ← fl0]; exact h.cons)
      rw [self] at key; exact key
  rw [if_neg q2] at hI ⊢
  have hpr := hD.pr o (by omega)
  by_cases q3 : x.line = 3
  · rw [if_pos q3] at hI ⊢
    have he := Int.emod_nonneg x.b (show m.room ≠ 0 by omega)
    have f0 : wd (m.words.set (2 + x.b % m.room).toNat c.arg) 0 = wd m.words 0 := by rw [wd_set, if_neg (by omega)]
    have f1 : wd (m.words.set (2 + x.b % m.room).toNat c.arg) 1 = wd m.words 1 := by rw [wd_set, if_neg (by omega)]
    have fE : endOf (m.words.set (2 + x.b % m.room).toNat c.arg) m.down m.last = wd m.words 1 := by rw [end_neg hdn, f1]
    have fc : ∀ i, wd m.words 0 ≤ i → i < x.b → cellOf (m.words.set (2 + x.b % m.room).toNat c.arg) m.room i = cellOf m.words m.room i := fun i a b => cellOf_other hr.1 (emod_ne b (by omega)) _
    have key := h.step (x := x) (x' := { x with line := 4 }) (c' := c) (words' := m.words.set (2 + x.b % m.room).toNat c.arg) (acc := ⟨m.moves, (0 : Nat), 2, 2 + x.b % m.room, 0, un c.arg, 0⟩) (down' := m.down) (last' := m.last) hx hb hc (by rw [self]; exact hI)
      (fun _ => ⟨rfl, hak, fun e => by omega, fun e => by omega, fun _ _ => by rw [f0]; exact hpr, fun _ _ => cellOf_same hr.1 hi.len _, fun e => by omega, fun e => by omega, fun e => by omega, fun e => by omega⟩) (fun e => by have e : x.call < 0 := e; omega)
      (fun t2 y d hne hY => by
        have hy := h.ths t2 y d hY
        obtain ⟨d2, hd2, hp2⟩ := hi.ths t2 y hY.1 hY.2.1
        rw [hY.2.2] at hd2; injection hd2 with hd2; subst hd2
        rw [fE]; rw [eE] at hy
        rcases hp2 with ⟨_, e, _⟩ | ⟨_, e, _⟩ | ⟨o2, _⟩
        · exact absurd e hne
        · exact absurd e hne
        · exact ⟨hy.fresh, by rw [f0]; exact hy.st, fun _ l e => by
            rw [f0] at e
            have s1 := hy.st o2 (by omega) e
            rw [fc y.t (by omega) (by omega)]
            exact hy.sv o2 l e, fun e => by omega, fun e => by omega, fun e => by omega, fun e => by omega, fun e => by omega, fun e => by omega⟩)
      (by rw [fE, f0]; rw [eE] at hle; exact hle) (by rw [fE, f0]; rw [eE] at hsz; exact hsz) (fun e => by omega)
      (by
        rw [self, flight_neg hdn, fE, f0]
        have := h.cons
        rw [fl0, eE] at this
        rw [vals_congr (w2 := m.words) (fun i a b => fc i a (by omega))]
        exact this)
    rw [self] at key; exact key
  · rw [if_neg q3] at hI ⊢
    have hpv := hD.pv o (by omega)
    have f0 : wd (m.words.set 1 (x.b + 1)) 0 = wd m.words 0 := by rw [wd_set, if_neg (by omega)]
    have f1 : wd (m.words.set 1 (x.b + 1)) 1 = x.b + 1 := by rw [wd_set, if_pos ⟨rfl, by omega⟩]
    have fE : endOf (m.words.set 1 (x.b + 1)) m.down m.last = x.b + 1 := by rw [end_neg hdn, f1]
    refine h.step (x := x) (x' := { x with call := -1 }) (c' := { c with point := m.moves, stop := m.moves, ak := 1, av := 0 }) (words' := m.words.set 1 (x.b + 1)) (acc := ⟨m.moves, (0 : Nat), 2, 1, 0, un (x.b + 1), 0⟩) (down' := m.down) (last' := m.last) hx hb hc hI
      (fun e => absurd e no) (fun _ => hm0.1) (fun t2 y d _ hY => by rw [fE]; have := h.ths t2 y d hY; rw [eE] at this; exact ThD.bot hr.1 _ (this.up (by omega))) (by rw [fE, f0]; omega) (by rw [fE, f0]; omega) (fun e => by omega) ?_
    rw [fE, f0, flight_neg hdn, vals_snoc (by omega), cellOf_low hr.1 _ (by omega), vals_congr (w2 := m.words) (fun i _ _ => cellOf_low hr.1 i (by omega) _), hpv]
    have hcons := h.cons
    rw [fl0, eE, ← hbb] at hcons
    refine (fm_some (c' := { c with point := m.moves, stop := m.moves, ak := 1, av := 0 }) (v := c.arg) hc (insF_no (by omega)) (by unfold insF; rw [if_pos ⟨o, rfl⟩])).trans ?_
    rw [fm_none (f := outF) (c' := { c with point := m.moves, stop := m.moves, ak := 1, av := 0 }) hc (outF_no (by omega)) (outF_no (by show ¬ (1 : Int) = 2; omega))]
    refine (List.Perm.cons _ hcons).trans ?_
    simp only [List.nil_append]
    rw [← List.append_assoc]
    exact List.perm_append_singleton _ _ |>.symm

set_option maxHeartbeats 2000000 in
theorem Deep.take {m : DM} (h : m.Deep) (hmv : m.moves < 65536) {x : Th} {c : ACall} (hB : Busy m.all m.calls 0 x c) (o : c.op = 91) : Deep { m.take 0 x c with moves := m.moves + 1 } := by
  have hD := h.ths 0 x c hB
  have hB0 := hB
  obtain ⟨hx, hb, hc⟩ := hB
  obtain ⟨d, hc2, hp⟩ := h.inv.ths 0 x hx hb
  rw [hc] at hc2; injection hc2 with hc2; subst hc2
  rcases hp with ⟨o2, _⟩ | ⟨_, _, l1, l2, p2, p3, p4, p5⟩ | ⟨o2, _⟩
  · omega
  rotate_left
  · omega
  have hi := h.inv
  have hI := hi.stepped hmv hx hb
  rw [show m.step 0 = m.take 0 x c from by unfold DM.step; simp only [th_of hx, call_of hc]; rw [if_neg (by omega), if_pos o]] at hI
  have hlt : 0 < m.all.length := hi.nth.1
  have hr := hi.room
  have hl := hi.lens
  have hm0 := hi.mv
  have no : ¬ (0 : Int) ≤ -1 := by omega
  have no1 : ¬ (0 : Int) ≤ -1 := by omega
  have self : m.calls.set x.call.toNat c = m.calls := by
    obtain ⟨hlt, he⟩ := List.getElem?_eq_some_iff.1 hc
    rw [← he]; exact List.set_getElem_self hlt
  have hle := h.le
  have hsz := h.size
  have hak := hD.fresh
  have hcons := h.cons
  have e10 : ∀ v, wd (m.words.set 1 v) 0 = wd m.words 0 := fun v => by rw [wd_set, if_neg (by omega)]
  have e11 : ∀ v, wd (m.words.set 1 v) 1 = v := fun v => by rw [wd_set, if_pos ⟨rfl, by omega⟩]
  have vv : ∀ v a b, valsOf (m.words.set 1 v) m.room a b = valsOf m.words m.room a b := fun v a b => vals_congr (fun i _ _ => cellOf_low hr.1 i (by omega) v)
  have fl := flight_at (d := m.down) hx
  -- ahead of the third line the bottom isn't down
  have low : x.line ≤ 2 → m.down < 0 := fun hl2 => by
    rcases Int.lt_or_le m.down 0 with hd | hd
    · exact hd
    · obtain ⟨y, d, hY, r4, r5, _⟩ := h.down hd
      obtain ⟨r1, _, r3⟩ := hY
      rw [hx] at r1; injection r1 with r1; subst r1
      omega
  unfold DM.take at hI ⊢
  by_cases q1 : x.line = 1
  · rw [if_pos q1] at hI ⊢
    have hdn := low (by omega)
    have key := h.step (x' := { x with b := wd m.words 1, line := 2 }) (c' := c) (words' := m.words) (acc := ⟨m.moves, (0 : Nat), 1, 1, 0, 0, un (wd m.words 1)⟩) (down' := m.down) (last' := m.last) hx hb hc (by rw [self]; exact hI)
      (fun _ => ⟨rfl, hak, fun e => by omega, fun e => by omega, fun e => by omega, fun e => by omega, fun _ e => absurd e (by show ¬ (2 : Int) = 4; omega), fun _ e => absurd e (by show ¬ (6 : Int) ≤ 2; omega), fun _ e => absurd e (by show ¬ (7 : Int) ≤ 2; omega), fun _ e => absurd e (by show ¬ ((2 : Int) = 6 ∨ (2 : Int) = 7); omega)⟩) (fun e => by have e : x.call < 0 := e; omega)
      (fun t2 y d _ hY => h.ths t2 y d hY) hle hsz (fun e => by omega) (by rw [self, flight_neg hdn]; rw [flight_neg hdn] at hcons; exact hcons)
    rw [self] at key; exact key
  rw [if_neg q1] at hI ⊢
  by_cases q2 : x.line = 2
  · rw [if_pos q2] at hI ⊢
    have hdn := low (by omega)
    have hbb := p2 q2
    have eE := end_neg (words := m.words) (l := m.last) hdn
    have fE : endOf (m.words.set 1 (x.b - 1)) m.moves (x.b - 1) = x.b := by rw [end_pos hm0.1]; omega
    rw [eE] at hle hsz hcons
    rw [flight_neg hdn] at hcons
    refine h.step (x := x) (x' := { x with line := 3 }) (c' := { c with point := m.moves }) (words' := m.words.set 1 (x.b - 1)) (acc := ⟨m.moves, (0 : Nat), 2, 1, 0, un (x.b - 1), 0⟩) (down' := m.moves) (last' := x.b - 1) hx hb hc hI
      (fun _ => ⟨rfl, hak, fun e => by have e : c.op = 92 := e; omega, fun e => by have e : c.op = 92 := e; omega, fun e => by have e : c.op = 90 := e; omega, fun e => by have e : c.op = 90 := e; omega, fun _ e => absurd e (by show ¬ (3 : Int) = 4; omega), fun _ e => absurd e (by show ¬ (6 : Int) ≤ 3; omega), fun _ e => absurd e (by show ¬ (7 : Int) ≤ 3; omega), fun _ e => absurd e (by show ¬ ((3 : Int) = 6 ∨ (3 : Int) = 7); omega)⟩) (fun e => by have e : x.call < 0 := e; omega)
      (fun t2 y d _ hY => by rw [fE]; have := h.ths t2 y d hY; rw [eE] at this; exact ThD.bot hr.1 _ (this.up (by omega))) (by rw [fE, e10]; omega) (by rw [fE, e10]; omega) (fun _ => ?_) ?_
    · rw [e10]
      by_cases q : wd m.words 0 < x.b - 1
      · refine .inl ⟨by omega, fun t2 y d hY ho hl2 => ?_⟩
        rcases Busy.of_set (x' := { x with line := 3 }) h hx hb hc (fun _ => rfl) hY with ⟨_, rfl, rfl⟩ | ⟨hne, hY⟩
        · have ho : c.op = 92 := ho; omega
        · obtain ⟨d2, hd2, hp2⟩ := hi.ths t2 y hY.1 hY.2.1
          rw [hY.2.2] at hd2; injection hd2 with hd2; subst hd2
          rcases hp2 with ⟨e, _⟩ | ⟨e, _⟩ | ⟨_, _, _, s⟩
          · omega
          · omega
          · have := s (by omega); omega
      · refine .inr ⟨by omega, fun y d hY ho hl2 => ?_⟩
        rcases Busy.of_set (x' := { x with line := 3 }) h hx hb hc (fun _ => rfl) hY with ⟨_, rfl, rfl⟩ | ⟨hne, hY⟩
        · exact absurd hl2 (by show ¬ (5 : Int) ≤ 3; omega)
        · exact absurd rfl hne
    · rw [fE, e10, vv, fm_none (c' := { c with point := m.moves }) hc (insF_no (by omega)) (insF_no (by show ¬ c.ak = 1; omega)), fm_none (c' := { c with point := m.moves }) hc (outF_no (by omega)) (outF_no (by show ¬ c.ak = 2; omega)), flight_set hlt, if_neg (by show ¬ (_ ∧ (3 : Int) = 7); omega), hbb]
      exact hcons
  rw [if_neg q2] at hI ⊢
  obtain ⟨d0, dl, db, db0⟩ := p3 (by omega)
  have eE := end_pos (words := m.words) (l := m.last) d0
  rw [eE] at hle hsz hcons
  rw [fl] at hcons
  have hmode := h.mode d0
  have others : ∀ t2 y d, t2 ≠ 0 → Busy m.all m.calls t2 y d → ThD m.words m.room (m.last + 1) y d := fun t2 y d _ hY => by have := h.ths t2 y d hY; rw [eE] at this; exact this
  by_cases q3 : x.line = 3
  · rw [if_pos q3] at hI ⊢
    rw [if_neg (by omega)] at hcons
    by_cases q4 : x.b - 1 < wd m.words 0
    · rw [if_pos q4] at hI ⊢
      refine h.step (x := x) (x' := { x with t := wd m.words 0, line := 4 }) (c' := { c with point := m.moves }) (words' := m.words) (acc := ⟨m.moves, (0 : Nat), 1, 0, 0, 0, un (wd m.words 0)⟩) (down' := m.down) (last' := m.last) hx hb hc hI
        (fun _ => ⟨rfl, hak, fun e => by have e : c.op = 92 := e; omega, fun e => by have e : c.op = 92 := e; omega, fun e => by have e : c.op = 90 := e; omega, fun e => by have e : c.op = 90 := e; omega, fun _ _ => ⟨by show wd m.words 0 = x.b; omega, by show wd m.words 0 = x.b; omega⟩, fun _ e => absurd e (by show ¬ (6 : Int) ≤ 4; omega), fun _ e => absurd e (by show ¬ (7 : Int) ≤ 4; omega), fun _ e => absurd e (by show ¬ ((4 : Int) = 6 ∨ (4 : Int) = 7); omega)⟩) (fun e => by have e : x.call < 0 := e; omega)
        (fun t2 y d hn hY => by rw [eE]; exact others t2 y d hn hY) (by rw [eE]; exact hle) (by rw [eE]; exact hsz) (fun _ => ?_) ?_
      · exact Mode.keep h hx hb hc (fun _ => rfl) hmode (fun _ e => by have e : c.op = 92 := e; omega) (fun _ _ e => absurd e (by show ¬ (5 : Int) ≤ 4; omega))
      · rw [eE, fm_none (c' := { c with point := m.moves }) hc (insF_no (by omega)) (insF_no (by show ¬ c.ak = 1; omega)), fm_none (c' := { c with point := m.moves }) hc (outF_no (by omega)) (outF_no (by show ¬ c.ak = 2; omega)), flight_set hlt, if_neg (by show ¬ (_ ∧ (4 : Int) = 7); omega)]
        exact hcons
    · rw [if_neg q4] at hI ⊢
      have key := h.step (x := x) (x' := { x with t := wd m.words 0, line := 5 }) (c' := c) (words' := m.words) (acc := ⟨m.moves, (0 : Nat), 1, 0, 0, 0, un (wd m.words 0)⟩) (down' := m.down) (last' := m.last) hx hb hc (by rw [self]; exact hI)
        (fun _ => ⟨rfl, hak, fun e => by have e : c.op = 92 := e; omega, fun e => by have e : c.op = 92 := e; omega, fun e => by have e : c.op = 90 := e; omega, fun e => by have e : c.op = 90 := e; omega, fun _ e => absurd e (by show ¬ (5 : Int) = 4; omega), fun _ e => absurd e (by show ¬ (6 : Int) ≤ 5; omega), fun _ e => absurd e (by show ¬ (7 : Int) ≤ 5; omega), fun _ e => absurd e (by show ¬ ((5 : Int) = 6 ∨ (5 : Int) = 7); omega)⟩) (fun e => by have e : x.call < 0 := e; omega)
        (fun t2 y d hn hY => by rw [eE]; exact others t2 y d hn hY) (by rw [eE]; exact hle) (by rw [eE]; exact hsz) (fun _ => Mode.keep h hx hb hc (fun _ => rfl) hmode (fun _ e => by have e : c.op = 92 := e; omega) (fun _ _ _ e _ => e))
        (by rw [self, eE, flight_set hlt, if_neg (by show ¬ (_ ∧ (5 : Int) = 7); omega)]; exact hcons)
      rw [self] at key; exact key
  rw [if_neg q3] at hI ⊢
  by_cases q4 : x.line = 4
  · rw [if_pos q4] at hI ⊢
    rw [if_neg (by omega)] at hcons
    obtain ⟨t41, t42⟩ := hD.t4 o q4
    have fE : endOf (m.words.set 1 x.t) (-1) m.last = x.b := by rw [end_neg (by omega), e11]; omega
    refine h.step (x := x) (x' := { x with call := -1 }) (c' := { c with stop := m.moves, ak := 3, av := 0 }) (words' := m.words.set 1 x.t) (acc := ⟨m.moves, (0 : Nat), 2, 1, 0, un x.t, 0⟩) (down' := -1) (last' := m.last) hx hb hc hI
      (fun e => absurd e no) (fun _ => hm0.1) (fun t2 y d hn hY => by rw [fE]; exact ThD.bot hr.1 _ ((others t2 y d hn hY).up (by omega))) (by rw [fE, e10]; omega) (by rw [fE, e10]; omega) (fun e => absurd e no) ?_
    rw [fE, e10]
    refine cons_same h hc hak.1 (by show ¬ (3 : Int) = 1; omega) (by show ¬ (3 : Int) = 2; omega) ?_
    rw [fl, if_neg (by omega), flight_neg (by omega), vv, eE, show m.last + 1 = x.b from by omega]
  rw [if_neg q4] at hI ⊢
  obtain ⟨pt0, ptT⟩ := p4 (by omega)
  have ptl := p5 (by omega)
  by_cases q5 : x.line = 5
  · rw [if_pos q5] at hI ⊢
    rw [if_neg (by omega)] at hcons
    by_cases q6 : x.t < x.b - 1
    · rw [if_pos q6] at hI ⊢
      have many : wd m.words 0 ≤ m.last ∧ ∀ t x c, Busy m.all m.calls t x c → c.op = 92 → 3 ≤ x.line → x.t ≠ m.last := by
        rcases hmode with e | ⟨_, e⟩
        · exact e
        · have := e x c hB0 o (by omega); omega
      have fE : endOf m.words (-1) m.last = x.b - 1 := by rw [end_neg (by omega)]; omega
      refine h.step (x := x) (x' := { x with v := wd m.words (2 + (x.b - 1) % m.room).toNat, call := -1 }) (c' := { c with stop := m.moves, ak := 2, av := wd m.words (2 + (x.b - 1) % m.room).toNat }) (words' := m.words) (acc := ⟨m.moves, (0 : Nat), 1, 2 + (x.b - 1) % m.room, 0, 0, un (wd m.words (2 + (x.b - 1) % m.room).toNat)⟩) (down' := -1) (last' := m.last) hx hb hc hI
        (fun e => absurd e no) (fun _ => hm0.1) (fun t2 y d hn hY => by
          rw [fE]
          have s := others t2 y d hn hY
          refine ⟨s.fresh, fun a b e => ?_, s.sv, s.pr, s.pv, s.t4, s.t6, s.t7, s.tv⟩
          have n1 := many.2 t2 y d hY a b
          have := many.1
          omega) (by rw [fE]; have := many.1; omega) (by rw [fE]; omega) (fun e => absurd e no) ?_
      rw [fE]
      refine cons_out (v := cellOf m.words m.room (x.b - 1)) h hc hak.1 rfl (by show ¬ c.op = 90; omega) rfl ?_
      rw [fl, if_neg (by omega), flight_neg (by omega), eE, show m.last + 1 = (x.b - 1) + 1 from by omega, vals_snoc (by have := many.1; omega)]
      exact List.perm_append_singleton _ _
    · rw [if_neg q6] at hI ⊢
      have key := h.step (x := x) (x' := { x with v := wd m.words (2 + (x.b - 1) % m.room).toNat, line := 6 }) (c' := c) (words' := m.words) (acc := ⟨m.moves, (0 : Nat), 1, 2 + (x.b - 1) % m.room, 0, 0, un (wd m.words (2 + (x.b - 1) % m.room).toNat)⟩) (down' := m.down) (last' := m.last) hx hb hc (by rw [self]; exact hI)
        (fun _ => ⟨rfl, hak, fun e => by have e : c.op = 92 := e; omega, fun e => by have e : c.op = 92 := e; omega, fun e => by have e : c.op = 90 := e; omega, fun e => by have e : c.op = 90 := e; omega, fun _ e => absurd e (by show ¬ (6 : Int) = 4; omega), fun _ _ => by show x.t = x.b - 1; omega, fun _ e => absurd e (by show ¬ (7 : Int) ≤ 6; omega), fun _ _ => rfl⟩) (fun e => by have e : x.call < 0 := e; omega)
        (fun t2 y d hn hY => by rw [eE]; exact others t2 y d hn hY) (by rw [eE]; exact hle) (by rw [eE]; exact hsz) (fun _ => Mode.keep h hx hb hc (fun _ => rfl) hmode (fun _ e => by have e : c.op = 92 := e; omega) (fun _ _ _ _ e => e (by omega) o))
        (by rw [self, eE, flight_set hlt, if_neg (by show ¬ (_ ∧ (6 : Int) = 7); omega)]; exact hcons)
      rw [self] at key; exact key
  rw [if_neg q5] at hI ⊢
  have t6 := hD.t6 o (by omega)
  by_cases q6 : x.line = 6
  · rw [if_pos q6] at hI ⊢
    rw [if_neg (by omega)] at hcons
    have tv := hD.tv o (.inl q6)
    by_cases q7 : wd m.words 0 = x.t
    · rw [if_pos q7] at hI ⊢
      have sw : swp m.words 0 x.t (x.t + 1) = m.words.set 0 (x.t + 1) := by unfold swp; rw [if_pos q7]
      have e00 : wd (m.words.set 0 (x.t + 1)) 0 = x.t + 1 := by rw [wd_set, if_pos ⟨rfl, by omega⟩]
      have ec : ∀ i, cellOf (m.words.set 0 (x.t + 1)) m.room i = cellOf m.words m.room i := fun i => cellOf_low hr.1 i (by omega) _
      have fE : endOf (m.words.set 0 (x.t + 1)) m.down m.last = m.last + 1 := end_pos d0
      have hI2 : Inv { m with words := m.words.set 0 (x.t + 1), trace := m.trace ++ [⟨m.moves, (0 : Nat), 3, 0, un x.t, un (x.t + 1), un (wd m.words 0)⟩], all := m.all.set 0 { x with line := 7 }, calls := m.calls.set x.call.toNat c, moves := m.moves + 1, down := m.down, last := m.last } := by
        rw [self, ← sw]; exact hI
      have key := h.step (x := x) (x' := { x with line := 7 }) (c' := c) (words' := m.words.set 0 (x.t + 1)) (acc := ⟨m.moves, (0 : Nat), 3, 0, un x.t, un (x.t + 1), un (wd m.words 0)⟩) (down' := m.down) (last' := m.last) hx hb hc hI2
        (fun _ => ⟨rfl, hak, fun e => by omega, fun e => by omega, fun e => by omega, fun e => by omega, fun _ e => absurd e (by show ¬ (7 : Int) = 4; omega), fun _ _ => t6, fun _ _ => by rw [e00]; show x.t + 1 = x.b; omega, fun _ _ => by rw [ec]; exact tv⟩) (fun e => by have e : x.call < 0 := e; omega)
        (fun t2 y d hn hY => by
          rw [fE]
          have s := others t2 y d hn hY
          obtain ⟨d2, hd2, hp2⟩ := hi.ths t2 y hY.1 hY.2.1
          rw [hY.2.2] at hd2; injection hd2 with hd2; subst hd2
          rcases hp2 with ⟨_, e, _⟩ | ⟨_, e, _⟩ | ⟨o2, _, _, s4⟩
          · exact absurd e hn
          · exact absurd e hn
          · exact ⟨s.fresh, fun _ b e => by rw [e00] at e; have := s4 (by omega); omega, fun _ b e => by rw [e00] at e; have := s4 (by omega); omega, fun e => by omega, fun e => by omega, fun e => by omega, fun e => by omega, fun e => by omega, fun e => by omega⟩)
        (by rw [fE, e00]; omega) (by rw [fE, e00]; omega) (fun _ => ?_) ?_
      · rw [self, ← sw] at key; exact key
      · rw [e00]
        refine .inr ⟨by omega, fun y d hY ho hl2 => ?_⟩
        rcases Busy.of_set (x' := { x with line := 7 }) h hx hb hc (fun _ => rfl) hY with ⟨_, rfl, rfl⟩ | ⟨hne, hY⟩
        · show m.last ≤ x.t; omega
        · exact absurd rfl hne
      · rw [self, fE, e00, flight_set hlt, if_pos ⟨d0, rfl⟩, vals_nil (by omega)]
        refine hcons.trans (List.Perm.append_left _ ?_)
        rw [vals_cons (by omega), vals_nil (by omega)]
        show [cellOf m.words m.room (wd m.words 0)].Perm [x.v]
        rw [q7, tv, t6]
    · rw [if_neg q7] at hI ⊢
      have sw : swp m.words 0 x.t (x.t + 1) = m.words := by unfold swp; rw [if_neg q7]
      have top : wd m.words 0 = x.b := by
        rcases hmode with ⟨e, _⟩ | ⟨e, _⟩ <;> omega
      have hI2 : Inv { m with words := m.words, trace := m.trace ++ [⟨m.moves, (0 : Nat), 3, 0, un x.t, un (x.t + 1), un (wd m.words 0)⟩], all := m.all.set 0 { x with line := 8 }, calls := m.calls.set x.call.toNat { c with point := m.moves }, moves := m.moves + 1, down := m.down, last := m.last } := by
        have hI : Inv { m with words := swp m.words 0 x.t (x.t + 1), trace := m.trace ++ [⟨m.moves, (0 : Nat), 3, 0, un x.t, un (x.t + 1), un (wd m.words 0)⟩], all := m.all.set 0 { x with line := 8 }, calls := m.calls.set x.call.toNat { c with point := m.moves }, moves := m.moves + 1, down := m.down, last := m.last } := hI
        rw [sw] at hI; exact hI
      have key := h.step (x := x) (x' := { x with line := 8 }) (c' := { c with point := m.moves }) (words' := m.words) (acc := ⟨m.moves, (0 : Nat), 3, 0, un x.t, un (x.t + 1), un (wd m.words 0)⟩) (down' := m.down) (last' := m.last) hx hb hc hI2
        (fun _ => ⟨rfl, hak, fun e => by have e : c.op = 92 := e; omega, fun e => by have e : c.op = 92 := e; omega, fun e => by have e : c.op = 90 := e; omega, fun e => by have e : c.op = 90 := e; omega, fun _ e => absurd e (by show ¬ (8 : Int) = 4; omega), fun _ _ => t6, fun _ _ => top, fun _ e => absurd e (by show ¬ ((8 : Int) = 6 ∨ (8 : Int) = 7); omega)⟩) (fun e => by have e : x.call < 0 := e; omega)
        (fun t2 y d hn hY => by rw [eE]; exact others t2 y d hn hY) (by rw [eE]; exact hle) (by rw [eE]; exact hsz) (fun _ => Mode.keep h hx hb hc (fun _ => rfl) hmode (fun _ e => by have e : c.op = 92 := e; omega) (fun _ _ _ _ e => e (by omega) o)) ?_
      · have goal : Deep { m with words := swp m.words 0 x.t (x.t + 1), trace := m.trace ++ [⟨m.moves, (0 : Nat), 3, 0, un x.t, un (x.t + 1), un (wd m.words 0)⟩], all := m.all.set 0 { x with line := 8 }, calls := m.calls.set x.call.toNat { c with point := m.moves }, moves := m.moves + 1, down := m.down, last := m.last } := by rw [sw]; exact key
        exact goal
      · rw [eE, fm_none (c' := { c with point := m.moves }) hc (insF_no (by omega)) (insF_no (by show ¬ c.ak = 1; omega)), fm_none (c' := { c with point := m.moves }) hc (outF_no (by omega)) (outF_no (by show ¬ c.ak = 2; omega)), flight_set hlt, if_neg (by show ¬ (_ ∧ (8 : Int) = 7); omega)]
        exact hcons
  rw [if_neg q6] at hI ⊢
  have t7 := hD.t7 o (by omega)
  have fE : endOf (m.words.set 1 (x.t + 1)) (-1) m.last = x.b := by rw [end_neg (by omega), e11]; omega
  by_cases q7 : x.line = 7
  · rw [if_pos q7] at hI ⊢
    refine h.step (x := x) (x' := { x with call := -1 }) (c' := { c with stop := m.moves, ak := 2, av := x.v }) (words' := m.words.set 1 (x.t + 1)) (acc := ⟨m.moves, (0 : Nat), 2, 1, 0, un (x.t + 1), 0⟩) (down' := -1) (last' := m.last) hx hb hc hI
      (fun e => absurd e no) (fun _ => hm0.1) (fun t2 y d hn hY => by rw [fE]; exact ThD.bot hr.1 _ ((others t2 y d hn hY).up (by omega))) (by rw [fE, e10]; omega) (by rw [fE, e10]; omega) (fun e => absurd e no) ?_
    rw [fE, e10]
    refine cons_out (v := x.v) h hc hak.1 rfl (by show ¬ c.op = 90; omega) rfl ?_
    rw [fl, if_pos ⟨d0, q7⟩, flight_neg (by omega), vv, eE, vals_nil (by omega), vals_nil (by omega)]
    exact List.Perm.refl _
  · rw [if_neg q7] at hI ⊢
    refine h.step (x := x) (x' := { x with call := -1 }) (c' := { c with stop := m.moves, ak := 3, av := 0 }) (words' := m.words.set 1 (x.t + 1)) (acc := ⟨m.moves, (0 : Nat), 2, 1, 0, un (x.t + 1), 0⟩) (down' := -1) (last' := m.last) hx hb hc hI
      (fun e => absurd e no) (fun _ => hm0.1) (fun t2 y d hn hY => by rw [fE]; exact ThD.bot hr.1 _ ((others t2 y d hn hY).up (by omega))) (by rw [fE, e10]; omega) (by rw [fE, e10]; omega) (fun e => absurd e no) ?_
    rw [fE, e10]
    refine cons_same h hc hak.1 (by show ¬ (3 : Int) = 1; omega) (by show ¬ (3 : Int) = 2; omega) ?_
    rw [fl, if_neg (by omega), flight_neg (by omega), vv, eE, show m.last + 1 = x.b from by omega]

set_option maxHeartbeats 2000000 in
theorem Deep.steal {m : DM} (h : m.Deep) (hmv : m.moves < 65536) {t : Nat} {x : Th} {c : ACall} (hB : Busy m.all m.calls t x c) (o : c.op = 92) : Deep { m.steal t x c with moves := m.moves + 1 } := by
  have hD := h.ths t x c hB
  have hB0 := hB
  obtain ⟨hx, hb, hc⟩ := hB
  obtain ⟨d, hc2, hp⟩ := h.inv.ths t x hx hb
  rw [hc] at hc2; injection hc2 with hc2; subst hc2
  rcases hp with ⟨o2, _⟩ | ⟨o2, _⟩ | ⟨_, l1, l2, p2⟩
  · omega
  · omega
  have hi := h.inv
  have hI := hi.stepped hmv hx hb
  rw [show m.step t = m.steal t x c from by unfold DM.step; simp only [th_of hx, call_of hc]; rw [if_neg (by omega), if_neg (by omega), if_pos o]] at hI
  have hlt : t < m.all.length := (List.getElem?_eq_some_iff.1 hx).1
  have hr := hi.room
  have hl := hi.lens
  have hm0 := hi.mv
  have no : ¬ (0 : Int) ≤ -1 := by omega
  have self : m.calls.set x.call.toNat c = m.calls := by
    obtain ⟨hlt, he⟩ := List.getElem?_eq_some_iff.1 hc
    rw [← he]; exact List.set_getElem_self hlt
  have hle := h.le
  have hsz := h.size
  have hak := hD.fresh
  have hcons := h.cons
  have fl : ∀ x', flight (m.all.set t x') m.down = flight m.all m.down := by
    intro x'
    by_cases e : t = 0
    · subst e
      have hdn : m.down < 0 := by
        rcases Int.lt_or_le m.down 0 with hd | hd
        · exact hd
        · obtain ⟨y, d, hY, r4, _⟩ := h.down hd
          obtain ⟨r1, _, r3⟩ := hY
          rw [hx] at r1; injection r1 with r1; subst r1
          rw [hc] at r3; injection r3 with r3; subst r3
          omega
      rw [flight_neg hdn, flight_neg hdn]
    · exact flight_ne e
  have all : ∀ t2 y d, t2 ≠ t → Busy m.all m.calls t2 y d → ThD m.words m.room (endOf m.words m.down m.last) y d := fun t2 y d _ hY => h.ths t2 y d hY
  unfold DM.steal at hI ⊢
  by_cases q1 : x.line = 1
  · rw [if_pos q1] at hI ⊢
    have key := h.step (x := x) (x' := { x with t := wd m.words 0, line := 2 }) (c' := c) (words' := m.words) (acc := ⟨m.moves, t, 1, 0, 0, 0, un (wd m.words 0)⟩) (down' := m.down) (last' := m.last) hx hb hc (by rw [self]; exact hI)
      (fun _ => ⟨rfl, hak, fun _ e => absurd e (by show ¬ (3 : Int) ≤ 2; omega), fun _ e => absurd e (by show ¬ (2 : Int) = 4; omega), fun e => by omega, fun e => by omega, fun e => by omega, fun e => by omega, fun e => by omega, fun e => by omega⟩) (fun e => by have e : x.call < 0 := e; omega)
      all hle hsz (fun e => Mode.keep h hx hb hc (fun _ => rfl) (h.mode e) (fun _ _ e => absurd e (by show ¬ (3 : Int) ≤ 2; omega)) (fun _ e => by omega)) (by rw [self, fl]; exact hcons)
    rw [self] at key; exact key
  rw [if_neg q1] at hI ⊢
  obtain ⟨pt0, ptT⟩ := p2 (by omega)
  by_cases q2 : x.line = 2
  · rw [if_pos q2] at hI ⊢
    by_cases q3 : wd m.words 1 ≤ x.t
    · rw [if_pos q3] at hI ⊢
      refine h.step (x := x) (x' := { x with b := wd m.words 1, call := -1 }) (c' := { c with point := m.moves, stop := m.moves, ak := 3, av := 0 }) (words' := m.words) (acc := ⟨m.moves, t, 1, 1, 0, 0, un (wd m.words 1)⟩) (down' := m.down) (last' := m.last) hx hb hc hI
        (fun e => absurd e no) (fun _ => hm0.1) all hle hsz (fun e => Mode.keep h hx hb hc (fun e => absurd e no) (h.mode e) (fun e => absurd e no) (fun e => absurd e no)) ?_
      refine cons_same h hc hak.1 (by show ¬ (3 : Int) = 1; omega) (by show ¬ (3 : Int) = 2; omega) ?_
      rw [fl]
    · rw [if_neg q3] at hI ⊢
      have e1 : wd m.words 1 ≤ endOf m.words m.down m.last ∧ (0 ≤ m.down → wd m.words 1 = m.last) := by
        rcases Int.lt_or_le m.down 0 with hd | hd
        · rw [end_neg hd]; exact ⟨Int.le_refl _, fun e => by omega⟩
        · rw [end_pos hd]
          obtain ⟨y, d, hY, _, _, _, r1, r2, _⟩ := h.down hd
          exact ⟨by omega, fun _ => by omega⟩
      have key := h.step (x := x) (x' := { x with b := wd m.words 1, line := 3 }) (c' := c) (words' := m.words) (acc := ⟨m.moves, t, 1, 1, 0, 0, un (wd m.words 1)⟩) (down' := m.down) (last' := m.last) hx hb hc (by rw [self]; exact hI)
        (fun _ => ⟨rfl, hak, fun _ _ e => by have e : x.t = wd m.words 0 := e; omega, fun _ e => absurd e (by show ¬ (3 : Int) = 4; omega), fun e => by omega, fun e => by omega, fun e => by omega, fun e => by omega, fun e => by omega, fun e => by omega⟩) (fun e => by have e : x.call < 0 := e; omega)
        all hle hsz (fun e => Mode.keep h hx hb hc (fun _ => rfl) (h.mode e) (fun _ _ _ _ => by have := e1.2 e; show x.t ≠ _; omega) (fun _ e => by omega)) (by rw [self, fl]; exact hcons)
      rw [self] at key; exact key
  rw [if_neg q2] at hI ⊢
  by_cases q3 : x.line = 3
  · rw [if_pos q3] at hI ⊢
    have key := h.step (x := x) (x' := { x with v := wd m.words (2 + x.t % m.room).toNat, line := 4 }) (c' := c) (words' := m.words) (acc := ⟨m.moves, t, 1, 2 + x.t % m.room, 0, 0, un (wd m.words (2 + x.t % m.room).toNat)⟩) (down' := m.down) (last' := m.last) hx hb hc (by rw [self]; exact hI)
      (fun _ => ⟨rfl, hak, fun _ _ e => hD.st o (by omega) e, fun _ _ _ => rfl, fun e => by omega, fun e => by omega, fun e => by omega, fun e => by omega, fun e => by omega, fun e => by omega⟩) (fun e => by have e : x.call < 0 := e; omega)
      all hle hsz (fun e => ?_) (by rw [self, fl]; exact hcons)
    · rw [self] at key; exact key
    · rcases h.mode e with ⟨a, b⟩ | ⟨a, b⟩
      · have := b t x c hB0 o (by omega)
        exact Mode.keep h hx hb hc (fun _ => rfl) (h.mode e) (fun _ _ _ _ => this) (fun _ e => by omega)
      · refine .inr ⟨a, fun y d hY ho hl2 => ?_⟩
        rcases Busy.of_set (x' := { x with v := wd m.words (2 + x.t % m.room).toNat, line := 4 }) h hx hb hc (fun _ => rfl) hY with ⟨_, rfl, rfl⟩ | ⟨hne, hY⟩
        · omega
        · exact b y d hY ho hl2
  rw [if_neg q3] at hI ⊢
  by_cases q4 : wd m.words 0 = x.t
  · rw [if_pos q4] at hI ⊢
    have hst := hD.st o (by omega) q4.symm
    have hsv := hD.sv o (by omega) q4.symm
    have sw : swp m.words 0 x.t (x.t + 1) = m.words.set 0 (x.t + 1) := by unfold swp; rw [if_pos q4]
    have e00 : wd (m.words.set 0 (x.t + 1)) 0 = x.t + 1 := by rw [wd_set, if_pos ⟨rfl, by omega⟩]
    have e01 : wd (m.words.set 0 (x.t + 1)) 1 = wd m.words 1 := by rw [wd_set, if_neg (by omega)]
    have ec : ∀ i, cellOf (m.words.set 0 (x.t + 1)) m.room i = cellOf m.words m.room i := fun i => cellOf_low hr.1 i (by omega) _
    have fE : endOf (m.words.set 0 (x.t + 1)) m.down m.last = endOf m.words m.down m.last := by unfold endOf; rw [e01]
    have hI : Inv { m with words := swp m.words 0 x.t (x.t + 1), trace := m.trace ++ [⟨m.moves, t, 3, 0, un x.t, un (x.t + 1), un (wd m.words 0)⟩], all := m.all.set t { x with call := -1 }, calls := m.calls.set x.call.toNat { c with point := if 0 ≤ m.down ∧ m.last = x.t then m.down else m.moves, stop := m.moves, ak := 2, av := x.v }, moves := m.moves + 1, down := m.down, last := m.last } := hI
    show Deep { m with words := swp m.words 0 x.t (x.t + 1), trace := m.trace ++ [⟨m.moves, t, 3, 0, un x.t, un (x.t + 1), un (wd m.words 0)⟩], all := m.all.set t { x with call := -1 }, calls := m.calls.set x.call.toNat { c with point := if 0 ≤ m.down ∧ m.last = x.t then m.down else m.moves, stop := m.moves, ak := 2, av := x.v }, moves := m.moves + 1, down := m.down, last := m.last }
    rw [sw] at hI ⊢
    refine h.step (x := x) (x' := { x with call := -1 }) (c' := { c with point := if 0 ≤ m.down ∧ m.last = x.t then m.down else m.moves, stop := m.moves, ak := 2, av := x.v }) (words' := m.words.set 0 (x.t + 1)) (acc := ⟨m.moves, t, 3, 0, un x.t, un (x.t + 1), un (wd m.words 0)⟩) (down' := m.down) (last' := m.last) hx hb hc hI
      (fun e => absurd e no) (fun _ => hm0.1) (fun t2 y d hn hY => ?_) (by rw [fE, e00]; omega) (by rw [fE, e00]; omega) (fun e => ?_) ?_
    · rw [fE]
      have s := h.ths t2 y d hY
      obtain ⟨d2, hd2, hp2⟩ := hi.ths t2 y hY.1 hY.2.1
      rw [hY.2.2] at hd2; injection hd2 with hd2; subst hd2
      have ee : d.op = 91 → 3 ≤ y.line → endOf m.words m.down m.last = y.b := fun o2 l3 => by
        rcases hp2 with ⟨o3, _⟩ | ⟨_, _, _, _, _, s3, _⟩ | ⟨o3, _⟩
        · omega
        · have := s3 l3; rw [end_pos this.1]; omega
        · omega
      refine ⟨s.fresh, fun o2 b e => ?_, fun o2 b e => ?_, fun o2 b => by rw [e00]; have := s.pr o2 b; omega, fun o2 b => by rw [ec]; exact s.pv o2 b, fun o2 b => ?_, s.t6, fun o2 b => ?_, fun o2 b => by rw [ec]; exact s.tv o2 b⟩
      · rw [e00] at e
        rcases hp2 with ⟨o3, _⟩ | ⟨o3, _⟩ | ⟨_, _, _, s4⟩
        · omega
        · omega
        · have := s4 (by omega); omega
      · rw [e00] at e
        rcases hp2 with ⟨o3, _⟩ | ⟨o3, _⟩ | ⟨_, _, _, s4⟩
        · omega
        · omega
        · have := s4 (by omega); omega
      · have := s.t4 o2 b; have := ee o2 (by omega); omega
      · have := s.t7 o2 b; have := ee o2 (by omega); omega
    · rw [e00]
      rcases h.mode e with ⟨a, b⟩ | ⟨a, b⟩
      · have := b t x c hB0 o (by omega)
        refine .inl ⟨by omega, fun t2 y d hY ho hl2 => ?_⟩
        rcases Busy.of_set (x' := { x with call := -1 }) h hx hb hc (fun e => absurd e no) hY with ⟨_, rfl, rfl⟩ | ⟨hne, hY⟩
        · exact this
        · exact b t2 y d hY ho hl2
      · refine .inr ⟨by omega, fun y d hY ho hl2 => ?_⟩
        rcases Busy.of_set (x' := { x with call := -1 }) h hx hb hc (fun e => absurd e no) hY with ⟨_, rfl, rfl⟩ | ⟨hne, hY⟩
        · have ho : c.op = 91 := ho; omega
        · exact b y d hY ho hl2
    · rw [fE, e00]
      refine cons_out (v := x.v) h hc hak.1 rfl (by show ¬ c.op = 90; omega) rfl ?_
      rw [fl, vals_congr (w1 := m.words.set 0 (x.t + 1)) (w2 := m.words) (fun i _ _ => ec i), vals_cons (a := wd m.words 0) (by omega), q4, ← hsv]
      exact List.perm_middle
  · rw [if_neg q4] at hI ⊢
    have sw : swp m.words 0 x.t (x.t + 1) = m.words := by unfold swp; rw [if_neg q4]
    have hI : Inv { m with words := swp m.words 0 x.t (x.t + 1), trace := m.trace ++ [⟨m.moves, t, 3, 0, un x.t, un (x.t + 1), un (wd m.words 0)⟩], all := m.all.set t { x with line := 1 }, calls := m.calls, moves := m.moves + 1, down := m.down, last := m.last } := hI
    show Deep { m with words := swp m.words 0 x.t (x.t + 1), trace := m.trace ++ [⟨m.moves, t, 3, 0, un x.t, un (x.t + 1), un (wd m.words 0)⟩], all := m.all.set t { x with line := 1 }, calls := m.calls, moves := m.moves + 1, down := m.down, last := m.last }
    rw [sw] at hI ⊢
    have key := h.step (x := x) (x' := { x with line := 1 }) (c' := c) (words' := m.words) (acc := ⟨m.moves, t, 3, 0, un x.t, un (x.t + 1), un (wd m.words 0)⟩) (down' := m.down) (last' := m.last) hx hb hc (by rw [self]; exact hI)
      (fun _ => ⟨rfl, hak, fun _ e => absurd e (by show ¬ (3 : Int) ≤ 1; omega), fun _ e => absurd e (by show ¬ (1 : Int) = 4; omega), fun e => by omega, fun e => by omega, fun e => by omega, fun e => by omega, fun e => by omega, fun e => by omega⟩) (fun e => by have e : x.call < 0 := e; omega)
      all hle hsz (fun e => Mode.keep h hx hb hc (fun _ => rfl) (h.mode e) (fun _ _ e => absurd e (by show ¬ (3 : Int) ≤ 1; omega)) (fun _ e => by omega)) (by rw [self, fl]; exact hcons)
    rw [self] at key; exact key

theorem Deep.stepped {m : DM} (h : m.Deep) (hmv : m.moves < 65536) {t : Nat} {x : Th} (hx : m.all[t]? = some x) (hb : 0 ≤ x.call) : Deep { m.step t with moves := m.moves + 1 } := by
  obtain ⟨c, hc, hp⟩ := h.inv.ths t x hx hb
  rw [show m.step t = (if c.op = 90 then m.push t x c else if c.op = 91 then m.take t x c else if c.op = 92 then m.steal t x c else m) from by unfold DM.step; simp only [th_of hx, call_of hc]]
  rcases hp with ⟨o, rfl, _⟩ | ⟨o, rfl, _⟩ | ⟨o, _⟩
  · rw [if_pos o]; exact h.push hmv ⟨hx, hb, hc⟩ o
  · rw [if_neg (by omega), if_pos o]; exact h.take hmv ⟨hx, hb, hc⟩ o
  · rw [if_neg (by omega), if_neg (by omega), if_pos o]; exact h.steal hmv ⟨hx, hb, hc⟩ o

theorem Deep.tick {m : DM} (h : m.Deep) (hmv : m.moves < 65536) : Deep { m with moves := m.moves + 1 } :=
  ⟨h.inv.tick hmv, h.ths, h.owner, h.uniq, h.le, h.size, h.mode, h.cons⟩

theorem Deep.begun {m : DM} (h : m.Deep) (hmv : m.moves < 65536) {t : Nat} {x : Th} {op arg data : Int} (hx : m.all[t]? = some x) (hb : x.call < 0) (harg : I64 arg) (hl : legal t op = true) :
    Deep { m.begins t op arg data with moves := m.moves + 1 } := by
  have hlt : t < m.all.length := (List.getElem?_eq_some_iff.1 hx).1
  have old : ∀ (i : Nat) (d : ACall), m.calls[i]? = some d → (m.calls ++ [callNew t op arg data m.moves])[i]? = some d := fun i d hd => by
    rw [List.getElem?_append_left (List.getElem?_eq_some_iff.1 hd).1]; exact hd
  -- who is busy behind it
  have busy : ∀ t2 y d, Busy (m.all.set t ⟨m.calls.length, 1, 0, 0, 0⟩) (m.calls ++ [callNew t op arg data m.moves]) t2 y d → (t2 = t ∧ y = ⟨m.calls.length, 1, 0, 0, 0⟩ ∧ d = callNew t op arg data m.moves) ∨ (t2 ≠ t ∧ Busy m.all m.calls t2 y d) := by
    rintro t2 y d ⟨hy, hyb, hd⟩
    by_cases e : t = t2
    · subst e
      have : y = ⟨m.calls.length, 1, 0, 0, 0⟩ := by simp [hlt] at hy; exact hy.symm
      subst this
      exact .inl ⟨rfl, rfl, by have hd : (m.calls ++ [callNew t op arg data m.moves])[((m.calls.length : Int)).toNat]? = some d := hd; simp at hd; exact hd.symm⟩
    · rw [List.getElem?_set_ne e] at hy
      obtain ⟨d0, hd0, _⟩ := h.inv.ths t2 y hy hyb
      rw [old _ _ hd0] at hd
      injection hd with hd; subst hd
      exact .inr ⟨fun e2 => e e2.symm, hy, hyb, hd0⟩
  have dn0 : t = 0 → m.down < 0 := fun e => by
    rcases Int.lt_or_le m.down 0 with hd | hd
    · exact hd
    · obtain ⟨y, d, hY, _⟩ := h.down hd
      subst e
      have r1 := hY.1
      rw [hx] at r1; injection r1 with r1; subst r1
      have := hY.2.1; omega
  refine ⟨h.inv.begun hmv hx hb harg hl, fun t2 y d hY => ?_, fun i d hd hs => ?_, fun t1 t2 x1 x2 h1 h2 hb1 he => ?_, h.le, h.size, fun hd => ?_, ?_⟩
  · rcases busy t2 y d hY with ⟨_, rfl, rfl⟩ | ⟨_, hY⟩
    · exact ⟨⟨rfl, by show (-1 : Int) < 0; omega⟩, fun _ e => absurd e (by show ¬ (3 : Int) ≤ 1; omega), fun _ e => absurd e (by show ¬ (1 : Int) = 4; omega), fun _ e => absurd e (by show ¬ (3 : Int) ≤ 1; omega), fun _ e => absurd e (by show ¬ (1 : Int) = 4; omega), fun _ e => absurd e (by show ¬ (1 : Int) = 4; omega),
        fun _ e => absurd e (by show ¬ (6 : Int) ≤ 1; omega), fun _ e => absurd e (by show ¬ (7 : Int) ≤ 1; omega), fun _ e => absurd e (by show ¬ ((1 : Int) = 6 ∨ (1 : Int) = 7); omega)⟩
    · exact h.ths t2 y d hY
  · have hd : (m.calls ++ [callNew t op arg data m.moves])[i]? = some d := hd
    rcases Nat.lt_or_ge i m.calls.length with hlti | hge
    · rw [List.getElem?_append_left hlti] at hd
      obtain ⟨t2, y, hy, hyc⟩ := h.owner i d hd hs
      have : t ≠ t2 := by rintro rfl; rw [hx] at hy; injection hy with hy; subst hy; omega
      exact ⟨t2, y, by show (m.all.set t _)[t2]? = _; rw [List.getElem?_set_ne this]; exact hy, hyc⟩
    · have : i < m.calls.length + 1 := by have := (List.getElem?_eq_some_iff.1 hd).1; simpa using this
      exact ⟨t, ⟨m.calls.length, 1, 0, 0, 0⟩, by show (m.all.set t _)[t]? = _; simp [hlt], by show (m.calls.length : Int) = i; omega⟩
  · have h1 : (m.all.set t ⟨m.calls.length, 1, 0, 0, 0⟩)[t1]? = some x1 := h1
    have h2 : (m.all.set t ⟨m.calls.length, 1, 0, 0, 0⟩)[t2]? = some x2 := h2
    have low : ∀ (t2 : Nat) (y : Th), m.all[t2]? = some y → 0 ≤ y.call → y.call < m.calls.length := fun t2 y hy hyb => by
      obtain ⟨d0, hd0, _⟩ := h.inv.ths t2 y hy hyb
      have := (List.getElem?_eq_some_iff.1 hd0).1; omega
    by_cases e1 : t = t1 <;> by_cases e2 : t = t2
    · omega
    · subst e1
      have : x1 = ⟨m.calls.length, 1, 0, 0, 0⟩ := by simp [hlt] at h1; exact h1.symm
      subst this
      rw [List.getElem?_set_ne e2] at h2
      have he : (m.calls.length : Int) = x2.call := he
      have := low t2 x2 h2 (by omega); omega
    · subst e2
      have : x2 = ⟨m.calls.length, 1, 0, 0, 0⟩ := by simp [hlt] at h2; exact h2.symm
      subst this
      rw [List.getElem?_set_ne e1] at h1
      have he : x1.call = (m.calls.length : Int) := he
      have := low t1 x1 h1 hb1; omega
    · rw [List.getElem?_set_ne e1] at h1
      rw [List.getElem?_set_ne e2] at h2
      exact h.uniq t1 t2 x1 x2 h1 h2 hb1 he
  · rcases h.mode hd with ⟨a, b⟩ | ⟨a, b⟩
    · refine .inl ⟨a, fun t2 y d hY ho hl2 => ?_⟩
      rcases busy t2 y d hY with ⟨_, rfl, rfl⟩ | ⟨_, hY⟩
      · exact absurd hl2 (by show ¬ (3 : Int) ≤ 1; omega)
      · exact b t2 y d hY ho hl2
    · refine .inr ⟨a, fun y d hY ho hl2 => ?_⟩
      rcases busy 0 y d hY with ⟨_, rfl, rfl⟩ | ⟨_, hY⟩
      · exact absurd hl2 (by show ¬ (5 : Int) ≤ 1; omega)
      · exact b y d hY ho hl2
  · show ((m.calls ++ [callNew t op arg data m.moves]).filterMap insF).Perm ((m.calls ++ [callNew t op arg data m.moves]).filterMap outF ++ (flight (m.all.set t _) m.down ++ valsOf m.words m.room (wd m.words 0) (endOf m.words m.down m.last)))
    have fl : flight (m.all.set t ⟨m.calls.length, 1, 0, 0, 0⟩) m.down = flight m.all m.down := by
      by_cases e : t = 0
      · rw [flight_neg (dn0 e), flight_neg (dn0 e)]
      · exact flight_ne e
    rw [fl, List.filterMap_append, List.filterMap_append]
    have e1 : [callNew t op arg data m.moves].filterMap insF = [] := by rw [List.filterMap_cons, insF_no (by show ¬ (0 : Int) = 1; omega)]; rfl
    have e2 : [callNew t op arg data m.moves].filterMap outF = [] := by rw [List.filterMap_cons, outF_no (by show ¬ (0 : Int) = 2; omega)]; rfl
    rw [e1, e2, List.append_nil, List.append_nil]
    exact h.cons

theorem Deep.moved {m : DM} (h : m.Deep) (v : Mv) (harg : I64 v.arg) : Deep (m.move v).1 := by
  unfold move
  split
  · exact h
  · rename_i hm
    have hmv : m.moves < 65536 := by omega
    show Deep { (m.move0 v).1 with moves := m.moves + 1 }
    unfold move0
    split
    · exact h.tick hmv
    · rename_i hth
      obtain ⟨t, ht⟩ := Int.eq_ofNat_of_zero_le (show 0 ≤ v.thread by omega)
      have hlt : t < m.all.length := by omega
      have hx := List.getElem?_eq_getElem hlt
      have hT : v.thread.toNat = t := by omega
      have hth' : m.th v.thread.toNat = m.all[t] := by rw [hT]; exact th_of hx
      split
      · split
        · exact h.tick hmv
        · rename_i hc
          rw [hth'] at hc
          rw [hT]
          exact h.stepped hmv hx (by omega)
      · split
        · exact h.tick hmv
        · rename_i hc
          rw [hth', not_or] at hc
          obtain ⟨c1, c2⟩ := hc
          rw [hT]
          refine h.begun hmv hx (by omega) harg ?_
          rw [← ht]
          simpa using c2

theorem Deep.start (threads room : Nat) (h1 : 1 ≤ threads) (h2 : threads ≤ 16) (h3 : 1 ≤ room) (h4 : room ≤ 256) : Deep (init threads room) := by
  have hi := Inv.start threads room h1 h2 h3 h4
  have none : ∀ (t : Nat) (x : Th), (init threads room).all[t]? = some x → x.call < 0 := fun t x hx => by
    have hx : (List.replicate threads noTh)[t]? = some x := hx
    have : x = noTh := List.eq_of_mem_replicate (List.mem_of_getElem? hx)
    subst this
    show (-1 : Int) < 0; omega
  have w0 : ∀ i, wd (List.replicate (2 + room) (0 : Int)) i = 0 := fun i => by
    unfold wd
    rw [List.getElem?_replicate]
    split <;> rfl
  refine ⟨hi, fun t x c hB => ?_, fun i c hc => ?_, fun t1 t2 x1 x2 g1 _ hb => ?_, ?_, ?_, fun hd => ?_, ?_⟩
  · have := none t x hB.1; have := hB.2.1; omega
  · have hc : ([] : List ACall)[i]? = some c := hc
    simp at hc
  · have := none t1 x1 g1; omega
  · show wd (List.replicate (2 + room) 0) 0 ≤ endOf (List.replicate (2 + room) 0) (-1) 0
    rw [end_neg (by omega), w0, w0]; omega
  · show endOf (List.replicate (2 + room) 0) (-1) 0 - wd (List.replicate (2 + room) 0) 0 ≤ (room : Int)
    rw [end_neg (by omega), w0, w0]; omega
  · exact absurd hd (by show ¬ (0 : Int) ≤ -1; omega)
  · show (([] : List ACall).filterMap insF).Perm (([] : List ACall).filterMap outF ++ (flight (List.replicate threads noTh) (-1) ++ valsOf (List.replicate (2 + room) 0) room (wd (List.replicate (2 + room) 0) 0) (endOf (List.replicate (2 + room) 0) (-1) 0)))
    rw [flight_neg (by omega), end_neg (by omega), w0, w0, vals_nil (by omega)]
    exact List.Perm.refl _

theorem Deep.runs {m : DM} (h : m.Deep) : ∀ l : List Mv, (∀ v ∈ l, I64 v.arg) → Deep (m.runs l) := by
  intro l
  induction l generalizing m with
  | nil => intro _; exact h
  | cons v l ih => intro hl; exact ih (h.moved v (hl v (by simp))) (fun u hu => hl u (by simp [hu]))

/-- Where no thread is busy: all calls have ended, and what was pushed is what was got and what is left. -/
theorem Deep.quiet {m : DM} (h : m.Deep) (hq : ∀ (t : Nat) (x : Th), m.all[t]? = some x → x.call < 0) :
    (∀ c ∈ m.calls, 0 ≤ c.stop) ∧ m.down < 0 ∧ (m.calls.filterMap insF).Perm (m.calls.filterMap outF ++ valsOf m.words m.room (wd m.words 0) (wd m.words 1)) := by
  have hdn : m.down < 0 := by
    rcases Int.lt_or_le m.down 0 with hd | hd
    · exact hd
    · obtain ⟨y, d, hY, _⟩ := h.down hd
      have := hq 0 y hY.1; have := hY.2.1; omega
  refine ⟨fun c hc => ?_, hdn, ?_⟩
  · rcases Int.lt_or_le c.stop 0 with hs | hs
    · obtain ⟨i, hi⟩ := List.getElem?_of_mem hc
      obtain ⟨t, x, hx, hxc⟩ := h.owner i c hi hs
      have := hq t x hx; omega
    · exact hs
  · have := h.cons
    rw [flight_neg hdn, end_neg hdn] at this
    exact this

/-! ### All threads' turns -/

def RoomIs (n : Int) (m : DM) : Prop := m.room = n
theorem ite_room {n : Int} {c : Prop} [Decidable c] {a b : DM} (ha : RoomIs n a) (hb : RoomIs n b) : RoomIs n (if c then a else b) := by split <;> assumption
theorem step_room (m : DM) (t : Nat) : (m.step t).room = m.room := by
  show RoomIs m.room (m.step t)
  unfold step push take steal
  dsimp only
  repeat' (refine ite_room ?_ ?_)
  all_goals exact rfl
theorem move_room (m : DM) (v : Mv) : (m.move v).1.room = m.room := by
  unfold move
  split
  · rfl
  · show (m.move0 v).1.room = _
    unfold move0
    repeat' split
    all_goals first | rfl | exact step_room _ _

theorem runs_room (m : DM) (l : List Mv) : (m.runs l).room = m.room := by
  induction l generalizing m with
  | nil => rfl
  | cons v l ih => rw [show m.runs (v :: l) = (m.move v).1.runs l from rfl, ih]; exact move_room m v

def turns (t n : Nat) : List Mv := List.replicate n ⟨t, 0, 0, 0⟩
/-- n moves of each thread from a on. -/
def rounds (n : Nat) : Nat → Nat → List Mv
  | _, 0 => []
  | a, k + 1 => turns a n ++ rounds n (a + 1) k

/-- Of the threads n's entry alone has turned. -/
def OneSet (all : List Th) (n : Nat) (m2 : DM) : Prop := (∃ y, m2.all = all.set n y) ∨ m2.all = all
theorem ite_one {all : List Th} {n : Nat} {c : Prop} [Decidable c] {a b : DM} (ha : OneSet all n a) (hb : OneSet all n b) : OneSet all n (if c then a else b) := by split <;> assumption
theorem step_one (m : DM) (n : Nat) : OneSet m.all n (m.step n) := by
  unfold step push take steal
  dsimp only
  repeat' (refine ite_one ?_ ?_)
  all_goals first | exact .inr rfl | exact .inl ⟨_, rfl⟩

theorem idle_kept {m : DM} {t : Nat} {v : Mv} (hv : v.op = 0) {x : Th} (hx : m.all[t]? = some x) (hb : x.call < 0) : ∃ y, (m.move v).1.all[t]? = some y ∧ y.call < 0 := by
  unfold move
  split
  · exact ⟨x, hx, hb⟩
  · show ∃ y, (m.move0 v).1.all[t]? = some y ∧ _
    unfold move0
    split
    · exact ⟨x, hx, hb⟩
    split
    · exact ⟨x, hx, hb⟩
    · rename_i hth hc
      have hne : v.thread.toNat ≠ t := by
        rintro rfl
        rw [th_of hx] at hc; exact hc hb
      refine ⟨x, ?_, hb⟩
      rcases step_one m v.thread.toNat with ⟨y, hy⟩ | hy
      · show (m.step v.thread.toNat).all[t]? = _
        rw [hy, List.getElem?_set_ne hne]; exact hx
      · show (m.step v.thread.toNat).all[t]? = _
        rw [hy]; exact hx

theorem idle_turns {t : Nat} : ∀ (l : List Mv) {m : DM} {x : Th}, (∀ v ∈ l, v.op = 0) → m.all[t]? = some x → x.call < 0 → ∃ y, (m.runs l).all[t]? = some y ∧ y.call < 0
  | [], m, x, _, hx, hb => ⟨x, hx, hb⟩
  | v :: l, m, x, hl, hx, hb => by
    obtain ⟨y, hy, hyb⟩ := idle_kept (hl v (by simp)) hx hb
    exact idle_turns l (fun u hu => hl u (by simp [hu])) hy hyb

theorem turns_op {t n : Nat} : ∀ v ∈ turns t n, v.op = 0 := fun v hv => by unfold turns at hv; rw [List.eq_of_mem_replicate hv]
theorem turns_arg {t n : Nat} : ∀ v ∈ turns t n, I64 v.arg := fun v hv => by unfold turns at hv; rw [List.eq_of_mem_replicate hv]; exact I64.small (by show (-1000000000 : Int) ≤ 0; omega) (by show (0 : Int) ≤ 1000000000; omega)
theorem turns_len (t n : Nat) : (turns t n).length = n := by simp [turns]
theorem rounds_snoc (n a : Nat) : ∀ k, rounds n a (k + 1) = rounds n a k ++ turns (a + k) n := by
  intro k
  induction k generalizing a with
  | zero => simp [rounds]
  | succ k ih =>
    show turns a n ++ rounds n (a + 1) (k + 1) = turns a n ++ rounds n (a + 1) k ++ _
    rw [ih, List.append_assoc, show a + 1 + k = a + (k + 1) from by omega]
theorem rounds_len (n a : Nat) : ∀ k, (rounds n a k).length = n * k := by
  intro k
  induction k generalizing a with
  | zero => rfl
  | succ k ih => show (turns a n ++ rounds n (a + 1) k).length = _; rw [List.length_append, turns_len, ih, Nat.mul_add]; omega
theorem rounds_arg (n a : Nat) : ∀ k, ∀ v ∈ rounds n a k, I64 v.arg := by
  intro k
  induction k generalizing a with
  | zero => intro v hv; simp [rounds] at hv
  | succ k ih =>
    intro v hv
    rcases List.mem_append.1 hv with hv | hv
    · exact turns_arg v hv
    · exact ih _ v hv

/-- Behind eight moves of each thread none is busy. -/
theorem rounds_quiet {m : DM} (h : m.Inv) (k : Nat) (hk : k ≤ m.all.length) (hm : m.moves + 8 * k ≤ 65536) : ∀ t, t < k → ∃ y, (m.runs (rounds 8 0 k)).all[t]? = some y ∧ y.call < 0 := by
  induction k with
  | zero => intro t ht; omega
  | succ k ih =>
    intro t ht
    rw [rounds_snoc, runs_append]
    have hmv := runs_moves (m := m) (rounds 8 0 k) (by rw [rounds_len]; omega)
    have hi := h.runs (rounds 8 0 k) (rounds_arg 8 0 k)
    have hln := runs_len m (rounds 8 0 k)
    rw [rounds_len] at hmv
    by_cases e : t = k
    · subst e
      rw [Nat.zero_add]
      have ht' : t < (m.runs (rounds 8 0 t)).all.length := by omega
      have ha := alone hi (a := 0) (d := 0) (I64.small (by omega) (by omega)) ht' (by omega)
      have split : turns t 8 = List.replicate 7 ⟨t, 0, 0, 0⟩ ++ turns t 1 := by rfl
      rw [split, runs_append]
      have hx := List.getElem?_eq_getElem (show t < ((m.runs (rounds 8 0 t)).runs (List.replicate 7 ⟨t, 0, 0, 0⟩)).all.length from by rw [runs_len]; exact ht')
      rw [th_of hx] at ha
      exact idle_turns _ turns_op hx ha
    · obtain ⟨y, hy, hyb⟩ := ih (by omega) (by omega) t (by omega)
      exact idle_turns _ turns_op hy hyb

/-- The law: behind the script and eight moves of each thread no call is on its way, and what was pushed is what was got and what is left. -/
theorem once {m : DM} (h : m.Deep) (hm : m.moves + 8 * m.all.length ≤ 65536) :
    Deep (m.runs (rounds 8 0 m.all.length)) ∧ (∀ c ∈ (m.runs (rounds 8 0 m.all.length)).calls, 0 ≤ c.stop) ∧ (m.runs (rounds 8 0 m.all.length)).down < 0 ∧
    ((m.runs (rounds 8 0 m.all.length)).calls.filterMap insF).Perm ((m.runs (rounds 8 0 m.all.length)).calls.filterMap outF ++ valsOf (m.runs (rounds 8 0 m.all.length)).words m.room (wd (m.runs (rounds 8 0 m.all.length)).words 0) (wd (m.runs (rounds 8 0 m.all.length)).words 1)) := by
  have hd := h.runs (rounds 8 0 m.all.length) (rounds_arg 8 0 _)
  have hq := rounds_quiet h.inv m.all.length (Nat.le_refl _) hm
  have hroom : ∀ (l : List Mv) (m : DM), (m.runs l).room = m.room := by
    intro l
    induction l with
    | nil => intro m; rfl
    | cons v l ih => intro m; rw [show m.runs (v :: l) = (m.move v).1.runs l from rfl, ih]; exact move_room m v
  have := hd.quiet (fun t x hx => by
    have hlt : t < m.all.length := by have := (List.getElem?_eq_some_iff.1 hx).1; rw [runs_len] at this; exact this
    obtain ⟨y, hy, hyb⟩ := hq t hlt
    rw [hx] at hy; injection hy with hy; subst hy; exact hyb)
  rw [hroom] at this
  exact ⟨hd, this⟩

end DM
end Go.Proofs.Ythifeaigdobonaa
