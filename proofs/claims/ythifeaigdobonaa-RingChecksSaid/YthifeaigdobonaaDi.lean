/- What holds of the deque's machine at every move's begin. Plain Lean. -/
import Derived.Test.YthifeaigdobonaaDm
namespace Go.Proofs.Ythifeaigdobonaa
namespace DM

/-- What holds of a thread on its way in a call. -/
def ThP (top bot down last : Int) (t : Nat) (x : Th) (op : Int) : Prop :=
  (op = 90 ∧ t = 0 ∧ 1 ≤ x.line ∧ x.line ≤ 4 ∧ (2 ≤ x.line → x.b = bot)) ∨
  (op = 91 ∧ t = 0 ∧ 1 ≤ x.line ∧ x.line ≤ 8 ∧ (x.line = 2 → x.b = bot) ∧ (3 ≤ x.line → 0 ≤ down ∧ last = x.b - 1 ∧ bot = x.b - 1 ∧ 0 ≤ x.b) ∧
    (4 ≤ x.line → 0 ≤ x.t ∧ x.t ≤ top) ∧ (5 ≤ x.line → x.t ≤ x.b - 1)) ∨
  (op = 92 ∧ 1 ≤ x.line ∧ x.line ≤ 4 ∧ (2 ≤ x.line → 0 ≤ x.t ∧ x.t ≤ top))

structure Inv (m : DM) : Prop where
  room : 1 ≤ m.room ∧ m.room ≤ 256
  len : (m.words.length : Int) = 2 + m.room
  nth : 0 < m.all.length ∧ m.all.length ≤ 16
  w64 : ∀ i, I64 (wd m.words i)
  mv : 0 ≤ m.moves ∧ m.moves ≤ 65536
  ncalls : (m.calls.length : Int) ≤ m.moves
  ntrace : (m.trace.length : Int) ≤ m.moves
  top : 0 ≤ wd m.words 0 ∧ wd m.words 0 ≤ m.moves
  bot : -1 ≤ wd m.words 1 ∧ wd m.words 1 ≤ m.moves
  args : ∀ c ∈ m.calls, I64 c.arg
  ths : ∀ t x, m.all[t]? = some x → 0 ≤ x.call → ∃ c, m.calls[x.call.toNat]? = some c ∧ ThP (wd m.words 0) (wd m.words 1) m.down m.last t x c.op
  up : m.down < 0 → 0 ≤ wd m.words 1
  dn : 0 ≤ m.down → ∃ x c, m.all[0]? = some x ∧ 0 ≤ x.call ∧ m.calls[x.call.toNat]? = some c ∧ c.op = 91 ∧ 3 ≤ x.line

theorem wd_set (l : List Int) (i j : Nat) (v : Int) : wd (l.set i v) j = if i = j ∧ i < l.length then v else wd l j := by
  unfold wd
  rw [List.getElem?_set]
  by_cases h : i = j
  · subst h
    by_cases h2 : i < l.length
    · simp [h2]
    · simp [h2]
  · simp [h]

/-- One step's effect, told by its parts, keeps it all. -/
theorem Inv.step {m : DM} (h : m.Inv) (hmv : m.moves < 65536) {t : Nat} {x x' : Th} {c c' : ACall} {words' : List Int} {acc : Acc} {down' last' : Int} (hx : m.all[t]? = some x) (hc : m.calls[x.call.toNat]? = some c)
    (hlen : words'.length = m.words.length) (h64 : ∀ i, I64 (wd words' i)) (htop : wd m.words 0 ≤ wd words' 0) (htop2 : wd words' 0 ≤ m.moves + 1) (hbot : -1 ≤ wd words' 1 ∧ wd words' 1 ≤ m.moves + 1)
    (hop : c'.op = c.op) (harg : c'.arg = c.arg) (hx' : 0 ≤ x'.call → x'.call = x.call ∧ ThP (wd words' 0) (wd words' 1) down' last' t x' c.op)
    (hoth : t ≠ 0 → wd words' 1 = wd m.words 1 ∧ down' = m.down ∧ last' = m.last)
    (hup : down' < 0 → 0 ≤ wd words' 1) (hdn : t = 0 → 0 ≤ down' → 0 ≤ x'.call ∧ c.op = 91 ∧ 3 ≤ x'.line) :
    Inv { m with words := words', trace := m.trace ++ [acc], all := m.all.set t x', calls := m.calls.set x.call.toNat c', moves := m.moves + 1, down := down', last := last' } := by
  have hlt : t < m.all.length := (List.getElem?_eq_some_iff.1 hx).1
  have hcl : x.call.toNat < m.calls.length := (List.getElem?_eq_some_iff.1 hc).1
  have like : ∀ (i : Nat) (d : ACall), m.calls[i]? = some d → ∃ d' : ACall, (m.calls.set x.call.toNat c')[i]? = some d' ∧ d'.op = d.op := by
    intro i d hd
    by_cases e : x.call.toNat = i
    · subst e
      rw [hc] at hd
      injection hd with hd
      subst hd
      exact ⟨c', by simp [hcl], hop⟩
    · exact ⟨d, by rw [List.getElem?_set_ne e]; exact hd, rfl⟩
  refine ⟨h.room, by rw [← h.len, ← hlen], by simpa using h.nth, h64, ⟨by have := h.mv; show 0 ≤ m.moves + 1; omega, by show m.moves + 1 ≤ 65536; omega⟩, ?_, ?_, ?_, hbot, ?_, ?_, hup, ?_⟩
  · have := h.ncalls; show ((m.calls.set _ _).length : Int) ≤ m.moves + 1; rw [List.length_set]; omega
  · have := h.ntrace; show ((m.trace ++ [acc]).length : Int) ≤ m.moves + 1; rw [List.length_append]; simp; omega
  · have := h.top; exact ⟨by show 0 ≤ wd words' 0; omega, htop2⟩
  · intro d hd
    rcases List.mem_or_eq_of_mem_set hd with hd | rfl
    · exact h.args d hd
    · rw [harg]; exact h.args c (List.mem_of_getElem? hc)
  · intro t2 x2 hx2 hb2
    by_cases e : t = t2
    · subst e
      have : x2 = x' := by simp [hlt] at hx2; exact hx2.symm
      subst this
      obtain ⟨e1, e2⟩ := hx' hb2
      exact ⟨c', by show (m.calls.set x.call.toNat c')[x2.call.toNat]? = _; rw [e1]; simp [hcl], by rw [hop]; exact e2⟩
    · have hx2' : m.all[t2]? = some x2 := by simpa [e] using hx2
      obtain ⟨d, hd, hp⟩ := h.ths t2 x2 hx2' hb2
      obtain ⟨d', hd', ho⟩ := like _ _ hd
      refine ⟨d', hd', ?_⟩
      rw [ho]
      rcases hp with ⟨p1, p2, p3⟩ | ⟨p1, p2, p3, p4, p5, p6, p7, p8⟩ | ⟨p1, p2, p3, p4⟩
      · have ht0 : t ≠ 0 := by omega
        obtain ⟨q1, q2, q3⟩ := hoth ht0
        exact .inl ⟨p1, p2, by show _ ∧ _ ∧ (2 ≤ x2.line → x2.b = wd words' 1); rw [q1]; exact p3⟩
      · have ht0 : t ≠ 0 := by omega
        obtain ⟨q1, q2, q3⟩ := hoth ht0
        refine .inr (.inl ⟨p1, p2, p3, p4, ?_, ?_, fun hl => ?_, p8⟩)
        · show x2.line = 2 → x2.b = wd words' 1; rw [q1]; exact p5
        · show 3 ≤ x2.line → 0 ≤ down' ∧ last' = x2.b - 1 ∧ wd words' 1 = x2.b - 1 ∧ 0 ≤ x2.b; rw [q1, q2, q3]; exact p6
        · have := p7 hl; exact ⟨this.1, by show x2.t ≤ wd words' 0; omega⟩
      · exact .inr (.inr ⟨p1, p2, p3, fun hl => by have := p4 hl; exact ⟨this.1, by show x2.t ≤ wd words' 0; omega⟩⟩)
  · intro hd
    have hd : 0 ≤ down' := hd
    by_cases e : t = 0
    · obtain ⟨r1, r2, r3⟩ := hdn e hd
      subst e
      have hcall := (hx' r1).1
      exact ⟨x', c', by simp [hlt], r1, by show (m.calls.set x.call.toNat c')[x'.call.toNat]? = _; rw [hcall]; simp [hcl], by rw [hop]; exact r2, r3⟩
    · obtain ⟨q1, q2, q3⟩ := hoth e
      rw [q2] at hd
      obtain ⟨y, d, r1, r2, r3, r4, r5⟩ := h.dn hd
      obtain ⟨d', hd', ho⟩ := like _ _ r3
      exact ⟨y, d', by show (m.all.set t x')[0]? = _; rw [List.getElem?_set_ne e]; exact r1, r2, hd', by rw [ho]; exact r4, r5⟩

theorem th_of {m : DM} {t : Nat} {x : Th} (hx : m.all[t]? = some x) : m.th t = x := by simp [th, hx]
theorem call_of {m : DM} {x : Th} {c : ACall} (hc : m.calls[x.call.toNat]? = some c) : m.call x = c := by simp [call, hc]

/-- The bounds that the walks ask, out of the invariant. -/
theorem Inv.lens {m : DM} (h : m.Inv) : 3 ≤ m.words.length := by have := h.len; have := h.room; omega

theorem Inv.idx {m : DM} (h : m.Inv) {b : Int} (_h0 : 0 ≤ b) : 0 ≤ 2 + b % m.room ∧ 2 + b % m.room < (m.words.length : Int) := by
  have := h.len; have := h.room
  have h1 := Int.emod_nonneg b (show m.room ≠ 0 by omega)
  have h2 := Int.emod_lt_of_pos b (show 0 < m.room by omega)
  omega

theorem Inv.stepped {m : DM} (h : m.Inv) (hmv : m.moves < 65536) {t : Nat} {x : Th} (hx : m.all[t]? = some x) (hb : 0 ≤ x.call) : Inv { m.step t with moves := m.moves + 1 } := by
  obtain ⟨c, hc, hp⟩ := h.ths t x hx hb
  have hl := h.lens
  have htop := h.top
  have hbot := h.bot
  have hm0 := h.mv
  have hI : ∀ {z : Int}, -1 ≤ z → z ≤ 65537 → I64 z := fun h0 h1 => I64.small (by omega) (by omega)
  have self : m.calls.set x.call.toNat c = m.calls := by
    obtain ⟨hlt, he⟩ := List.getElem?_eq_some_iff.1 hc
    rw [← he]; exact List.set_getElem_self hlt
  have w1 : ∀ v, I64 v → ∀ i, I64 (wd (m.words.set 1 v) i) := fun v hv i => by rw [wd_set]; split <;> first | exact hv | exact h.w64 i
  have e10 : ∀ v, wd (m.words.set 1 v) 0 = wd m.words 0 := fun v => by rw [wd_set, if_neg (by omega)]
  have e11 : ∀ v, wd (m.words.set 1 v) 1 = v := fun v => by rw [wd_set, if_pos ⟨rfl, by omega⟩]
  have e00 : ∀ v, wd (m.words.set 0 v) 0 = v := fun v => by rw [wd_set, if_pos ⟨rfl, by omega⟩]
  have e01 : ∀ v, wd (m.words.set 0 v) 1 = wd m.words 1 := fun v => by rw [wd_set, if_neg (by omega)]
  have w0 : ∀ v, I64 v → ∀ i, I64 (wd (m.words.set 0 v) i) := fun v hv i => by rw [wd_set]; split <;> first | exact hv | exact h.w64 i
  rw [show m.step t = (if c.op = 90 then m.push t x c else if c.op = 91 then m.take t x c else if c.op = 92 then m.steal t x c else m) from by unfold DM.step; simp only [th_of hx, call_of hc]]
  have dn91 : 0 ≤ m.down → t = 0 → c.op = 91 ∧ 3 ≤ x.line := fun hd ht => by
    obtain ⟨y, d, r1, r2, r3, r4, r5⟩ := h.dn hd
    subst ht
    rw [hx] at r1; injection r1 with r1; subst r1
    rw [hc] at r3; injection r3 with r3; subst r3
    exact ⟨r4, r5⟩
  rcases hp with ⟨o, rfl, l1, l2, p3⟩ | ⟨o, rfl, l1, l2, p2, p3, p4, p5⟩ | ⟨o, l1, l2, p2⟩
  · -- push
    have hdn : m.down < 0 := by
      rcases Int.lt_or_le m.down 0 with hd | hd
      · exact hd
      · have := (dn91 hd rfl).1; omega
    have hb0 := h.up hdn
    rw [if_pos o]
    unfold push
    by_cases q1 : x.line = 1
    · rw [if_pos q1]
      have key := h.step hmv (x' := { x with b := wd m.words 1, line := 2 }) (c' := c) (words' := m.words) (acc := ⟨m.moves, (0 : Nat), 1, 1, 0, 0, un (wd m.words 1)⟩) (down' := m.down) (last' := m.last) hx hc rfl h.w64 (by omega) (by omega) (by omega) rfl rfl
        (fun _ => ⟨rfl, .inl ⟨o, rfl, by show (1 : Int) ≤ 2; omega, by show (2 : Int) ≤ 4; omega, fun _ => rfl⟩⟩) (fun e => absurd rfl e) h.up (fun _ hd => by omega)
      rw [self] at key; exact key
    rw [if_neg q1]
    have hbb := p3 (by omega)
    by_cases q2 : x.line = 2
    · rw [if_pos q2]
      by_cases q3 : m.room ≤ x.b - wd m.words 0
      · rw [if_pos q3]
        exact h.step (x := x) hmv (x' := { x with t := wd m.words 0, call := -1 }) (c' := { c with point := m.moves, stop := m.moves, ak := 4, av := 0 }) (words' := m.words) (acc := ⟨m.moves, (0 : Nat), 1, 0, 0, 0, un (wd m.words 0)⟩) (down' := m.down) (last' := m.last) hx hc rfl h.w64 (by omega) (by omega) (by omega) rfl rfl
          (fun e => absurd e (by show ¬ (0 : Int) ≤ -1; omega)) (fun e => absurd rfl e) h.up (fun _ hd => by omega)
      · rw [if_neg q3]
        have key := h.step hmv (x' := { x with t := wd m.words 0, line := 3 }) (c' := c) (words' := m.words) (acc := ⟨m.moves, (0 : Nat), 1, 0, 0, 0, un (wd m.words 0)⟩) (down' := m.down) (last' := m.last) hx hc rfl h.w64 (by omega) (by omega) (by omega) rfl rfl
          (fun _ => ⟨rfl, .inl ⟨o, rfl, by show (1 : Int) ≤ 3; omega, by show (3 : Int) ≤ 4; omega, fun _ => hbb⟩⟩) (fun e => absurd rfl e) h.up (fun _ hd => by omega)
        rw [self] at key; exact key
    rw [if_neg q2]
    have hidx := h.idx (show 0 ≤ x.b by omega)
    by_cases q3 : x.line = 3
    · rw [if_pos q3]
      have he := Int.emod_nonneg x.b (show m.room ≠ 0 by have := h.room; omega)
      have f0 : wd (m.words.set (2 + x.b % m.room).toNat c.arg) 0 = wd m.words 0 := by rw [wd_set, if_neg (by omega)]
      have f1 : wd (m.words.set (2 + x.b % m.room).toNat c.arg) 1 = wd m.words 1 := by
        rw [wd_set, if_neg (by omega)]
      have key := h.step hmv (x' := { x with line := 4 }) (c' := c) (words' := m.words.set (2 + x.b % m.room).toNat c.arg) (acc := ⟨m.moves, (0 : Nat), 2, 2 + x.b % m.room, 0, un c.arg, 0⟩) (down' := m.down) (last' := m.last) hx hc (by simp)
        (fun i => by rw [wd_set]; split <;> first | exact h.args c (List.mem_of_getElem? hc) | exact h.w64 i) (by omega) (by omega) (by omega) rfl rfl
        (fun _ => ⟨rfl, .inl ⟨o, rfl, by show (1 : Int) ≤ 4; omega, by show (4 : Int) ≤ 4; omega, fun _ => by rw [f1]; exact hbb⟩⟩) (fun e => absurd rfl e) (fun _ => by omega) (fun _ hd => by omega)
      rw [self] at key; exact key
    · rw [if_neg q3]
      exact h.step (x := x) hmv (x' := { x with call := -1 }) (c' := { c with point := m.moves, stop := m.moves, ak := 1, av := 0 }) (words' := m.words.set 1 (x.b + 1)) (acc := ⟨m.moves, (0 : Nat), 2, 1, 0, un (x.b + 1), 0⟩) (down' := m.down) (last' := m.last) hx hc (by simp)
        (w1 _ (hI (by omega) (by omega))) (by rw [e10]; omega) (by rw [e10]; omega) (by rw [e11]; omega) rfl rfl (fun e => absurd e (by show ¬ (0 : Int) ≤ -1; omega)) (fun e => absurd rfl e) (fun _ => by rw [e11]; omega) (fun _ hd => by omega)
  · -- take
    rw [if_neg (by omega), if_pos o]
    unfold take
    by_cases q1 : x.line = 1
    · rw [if_pos q1]
      have hdn : m.down < 0 := by
        rcases Int.lt_or_le m.down 0 with hd | hd
        · exact hd
        · have := (dn91 hd rfl).2; omega
      have key := h.step hmv (x' := { x with b := wd m.words 1, line := 2 }) (c' := c) (words' := m.words) (acc := ⟨m.moves, (0 : Nat), 1, 1, 0, 0, un (wd m.words 1)⟩) (down' := m.down) (last' := m.last) hx hc rfl h.w64 (by omega) (by omega) (by omega) rfl rfl
        (fun _ => ⟨rfl, .inr (.inl ⟨o, rfl, by show (1 : Int) ≤ 2; omega, by show (2 : Int) ≤ 8; omega, fun _ => rfl, fun e => absurd e (by show ¬ (3 : Int) ≤ 2; omega), fun e => absurd e (by show ¬ (4 : Int) ≤ 2; omega), fun e => absurd e (by show ¬ (5 : Int) ≤ 2; omega)⟩)⟩) (fun e => absurd rfl e) h.up (fun _ hd => by omega)
      rw [self] at key; exact key
    rw [if_neg q1]
    by_cases q2 : x.line = 2
    · rw [if_pos q2]
      have hdn : m.down < 0 := by
        rcases Int.lt_or_le m.down 0 with hd | hd
        · exact hd
        · have := (dn91 hd rfl).2; omega
      have hb0 := h.up hdn
      have hbb := p2 q2
      exact h.step (x := x) hmv (x' := { x with line := 3 }) (c' := { c with point := m.moves }) (words' := m.words.set 1 (x.b - 1)) (acc := ⟨m.moves, (0 : Nat), 2, 1, 0, un (x.b - 1), 0⟩) (down' := m.moves) (last' := x.b - 1) hx hc (by simp)
        (w1 _ (hI (by omega) (by omega))) (by rw [e10]; omega) (by rw [e10]; omega) (by rw [e11]; omega) rfl rfl
        (fun _ => ⟨rfl, .inr (.inl ⟨o, rfl, by show (1 : Int) ≤ 3; omega, by show (3 : Int) ≤ 8; omega, fun e => absurd e (by show ¬ (3 : Int) = 2; omega), fun _ => ⟨hm0.1, rfl, e11 _, by show 0 ≤ x.b; omega⟩, fun e => absurd e (by show ¬ (4 : Int) ≤ 3; omega), fun e => absurd e (by show ¬ (5 : Int) ≤ 3; omega)⟩)⟩)
        (fun e => absurd rfl e) (fun hd => by omega) (fun _ _ => ⟨hb, o, by show (3 : Int) ≤ 3; omega⟩)
    rw [if_neg q2]
    obtain ⟨hd0, hla, hbo, hxb⟩ := p3 (by omega)
    by_cases q3 : x.line = 3
    · rw [if_pos q3]
      by_cases q4 : x.b - 1 < wd m.words 0
      · rw [if_pos q4]
        exact h.step (x := x) hmv (x' := { x with t := wd m.words 0, line := 4 }) (c' := { c with point := m.moves }) (words' := m.words) (acc := ⟨m.moves, (0 : Nat), 1, 0, 0, 0, un (wd m.words 0)⟩) (down' := m.down) (last' := m.last) hx hc rfl h.w64 (by omega) (by omega) (by omega) rfl rfl
          (fun _ => ⟨rfl, .inr (.inl ⟨o, rfl, by show (1 : Int) ≤ 4; omega, by show (4 : Int) ≤ 8; omega, fun e => absurd e (by show ¬ (4 : Int) = 2; omega), fun _ => ⟨hd0, hla, hbo, hxb⟩, fun _ => ⟨htop.1, by show wd m.words 0 ≤ wd m.words 0; omega⟩, fun e => absurd e (by show ¬ (5 : Int) ≤ 4; omega)⟩)⟩)
          (fun e => absurd rfl e) h.up (fun _ _ => ⟨hb, o, by show (3 : Int) ≤ 4; omega⟩)
      · rw [if_neg q4]
        have key := h.step hmv (x' := { x with t := wd m.words 0, line := 5 }) (c' := c) (words' := m.words) (acc := ⟨m.moves, (0 : Nat), 1, 0, 0, 0, un (wd m.words 0)⟩) (down' := m.down) (last' := m.last) hx hc rfl h.w64 (by omega) (by omega) (by omega) rfl rfl
          (fun _ => ⟨rfl, .inr (.inl ⟨o, rfl, by show (1 : Int) ≤ 5; omega, by show (5 : Int) ≤ 8; omega, fun e => absurd e (by show ¬ (5 : Int) = 2; omega), fun _ => ⟨hd0, hla, hbo, hxb⟩, fun _ => ⟨htop.1, by show wd m.words 0 ≤ wd m.words 0; omega⟩, fun _ => by show wd m.words 0 ≤ x.b - 1; omega⟩)⟩)
          (fun e => absurd rfl e) h.up (fun _ _ => ⟨hb, o, by show (3 : Int) ≤ 5; omega⟩)
        rw [self] at key; exact key
    rw [if_neg q3]
    have hxt := p4 (by omega)
    by_cases q4 : x.line = 4
    · rw [if_pos q4]
      exact h.step (x := x) hmv (x' := { x with call := -1 }) (c' := { c with stop := m.moves, ak := 3, av := 0 }) (words' := m.words.set 1 x.t) (acc := ⟨m.moves, (0 : Nat), 2, 1, 0, un x.t, 0⟩) (down' := -1) (last' := m.last) hx hc (by simp)
        (w1 _ (hI (by omega) (by omega))) (by rw [e10]; omega) (by rw [e10]; omega) (by rw [e11]; omega) rfl rfl (fun e => absurd e (by show ¬ (0 : Int) ≤ -1; omega)) (fun e => absurd rfl e) (fun _ => by rw [e11]; omega) (fun _ hd => by omega)
    rw [if_neg q4]
    have hxl := p5 (by omega)
    by_cases q5 : x.line = 5
    · rw [if_pos q5]
      by_cases q6 : x.t < x.b - 1
      · rw [if_pos q6]
        exact h.step (x := x) hmv (x' := { x with v := wd m.words (2 + (x.b - 1) % m.room).toNat, call := -1 }) (c' := { c with stop := m.moves, ak := 2, av := wd m.words (2 + (x.b - 1) % m.room).toNat }) (words' := m.words) (acc := ⟨m.moves, (0 : Nat), 1, 2 + (x.b - 1) % m.room, 0, 0, un (wd m.words (2 + (x.b - 1) % m.room).toNat)⟩) (down' := -1) (last' := m.last) hx hc rfl h.w64 (by omega) (by omega) (by omega) rfl rfl
          (fun e => absurd e (by show ¬ (0 : Int) ≤ -1; omega)) (fun e => absurd rfl e) (fun _ => by omega) (fun _ hd => by omega)
      · rw [if_neg q6]
        have key := h.step hmv (x' := { x with v := wd m.words (2 + (x.b - 1) % m.room).toNat, line := 6 }) (c' := c) (words' := m.words) (acc := ⟨m.moves, (0 : Nat), 1, 2 + (x.b - 1) % m.room, 0, 0, un (wd m.words (2 + (x.b - 1) % m.room).toNat)⟩) (down' := m.down) (last' := m.last) hx hc rfl h.w64 (by omega) (by omega) (by omega) rfl rfl
          (fun _ => ⟨rfl, .inr (.inl ⟨o, rfl, by show (1 : Int) ≤ 6; omega, by show (6 : Int) ≤ 8; omega, fun e => absurd e (by show ¬ (6 : Int) = 2; omega), fun _ => ⟨hd0, hla, hbo, hxb⟩, fun _ => hxt, fun _ => hxl⟩)⟩)
          (fun e => absurd rfl e) h.up (fun _ _ => ⟨hb, o, by show (3 : Int) ≤ 6; omega⟩)
        rw [self] at key; exact key
    rw [if_neg q5]
    by_cases q6 : x.line = 6
    · rw [if_pos q6]
      by_cases q7 : wd m.words 0 = x.t
      · rw [if_pos q7]
        have es : swp m.words 0 x.t (x.t + 1) = m.words.set 0 (x.t + 1) := by simp [swp, q7]
        have key := h.step hmv (x' := { x with line := 7 }) (c' := c) (words' := m.words.set 0 (x.t + 1)) (acc := ⟨m.moves, (0 : Nat), 3, 0, un x.t, un (x.t + 1), un (wd m.words 0)⟩) (down' := m.down) (last' := m.last) hx hc (by simp) (w0 _ (hI (by omega) (by omega))) (by rw [e00]; omega) (by rw [e00]; omega) (by rw [e01]; omega) rfl rfl
          (fun _ => ⟨rfl, .inr (.inl ⟨o, rfl, by show (1 : Int) ≤ 7; omega, by show (7 : Int) ≤ 8; omega, fun e => absurd e (by show ¬ (7 : Int) = 2; omega), fun _ => ⟨hd0, hla, by rw [e01]; exact hbo, hxb⟩, fun _ => ⟨hxt.1, by rw [e00]; show x.t ≤ x.t + 1; omega⟩, fun _ => hxl⟩)⟩)
          (fun e => absurd rfl e) (fun hd => by omega) (fun _ _ => ⟨hb, o, by show (3 : Int) ≤ 7; omega⟩)
        rw [self] at key
        unfold dswap; rw [es]; exact key
      · rw [if_neg q7]
        have es : swp m.words 0 x.t (x.t + 1) = m.words := by simp [swp, q7]
        have key := h.step hmv (x' := { x with line := 8 }) (c' := { c with point := m.moves }) (words' := m.words) (acc := ⟨m.moves, (0 : Nat), 3, 0, un x.t, un (x.t + 1), un (wd m.words 0)⟩) (down' := m.down) (last' := m.last) hx hc rfl h.w64 (by omega) (by omega) (by omega) rfl rfl
          (fun _ => ⟨rfl, .inr (.inl ⟨o, rfl, by show (1 : Int) ≤ 8; omega, by show (8 : Int) ≤ 8; omega, fun e => absurd e (by show ¬ (8 : Int) = 2; omega), fun _ => ⟨hd0, hla, hbo, hxb⟩, fun _ => hxt, fun _ => hxl⟩)⟩)
          (fun e => absurd rfl e) h.up (fun _ _ => ⟨hb, o, by show (3 : Int) ≤ 8; omega⟩)
        unfold dswap; rw [es]; exact key
    rw [if_neg q6]
    by_cases q7 : x.line = 7
    · rw [if_pos q7]
      exact h.step (x := x) hmv (x' := { x with call := -1 }) (c' := { c with stop := m.moves, ak := 2, av := x.v }) (words' := m.words.set 1 (x.t + 1)) (acc := ⟨m.moves, (0 : Nat), 2, 1, 0, un (x.t + 1), 0⟩) (down' := -1) (last' := m.last) hx hc (by simp)
        (w1 _ (hI (by omega) (by omega))) (by rw [e10]; omega) (by rw [e10]; omega) (by rw [e11]; omega) rfl rfl (fun e => absurd e (by show ¬ (0 : Int) ≤ -1; omega)) (fun e => absurd rfl e) (fun _ => by rw [e11]; omega) (fun _ hd => by omega)
    · rw [if_neg q7]
      exact h.step (x := x) hmv (x' := { x with call := -1 }) (c' := { c with stop := m.moves, ak := 3, av := 0 }) (words' := m.words.set 1 (x.t + 1)) (acc := ⟨m.moves, (0 : Nat), 2, 1, 0, un (x.t + 1), 0⟩) (down' := -1) (last' := m.last) hx hc (by simp)
        (w1 _ (hI (by omega) (by omega))) (by rw [e10]; omega) (by rw [e10]; omega) (by rw [e11]; omega) rfl rfl (fun e => absurd e (by show ¬ (0 : Int) ≤ -1; omega)) (fun e => absurd rfl e) (fun _ => by rw [e11]; omega) (fun _ hd => by omega)
  · -- steal
    rw [if_neg (by omega), if_neg (by omega), if_pos o]
    have nd : t = 0 → 0 ≤ m.down → False := fun ht hd => by have := (dn91 hd ht).1; omega
    unfold steal
    by_cases q1 : x.line = 1
    · rw [if_pos q1]
      have key := h.step hmv (x' := { x with t := wd m.words 0, line := 2 }) (c' := c) (words' := m.words) (acc := ⟨m.moves, t, 1, 0, 0, 0, un (wd m.words 0)⟩) (down' := m.down) (last' := m.last) hx hc rfl h.w64 (by omega) (by omega) (by omega) rfl rfl
        (fun _ => ⟨rfl, .inr (.inr ⟨o, by show (1 : Int) ≤ 2; omega, by show (2 : Int) ≤ 4; omega, fun _ => ⟨htop.1, by show wd m.words 0 ≤ wd m.words 0; omega⟩⟩)⟩) (fun _ => ⟨rfl, rfl, rfl⟩) h.up (fun e hd => (nd e hd).elim)
      rw [self] at key; exact key
    rw [if_neg q1]
    have hxt := p2 (by omega)
    by_cases q2 : x.line = 2
    · rw [if_pos q2]
      by_cases q3 : wd m.words 1 ≤ x.t
      · rw [if_pos q3]
        exact h.step (x := x) hmv (x' := { x with b := wd m.words 1, call := -1 }) (c' := { c with point := m.moves, stop := m.moves, ak := 3, av := 0 }) (words' := m.words) (acc := ⟨m.moves, t, 1, 1, 0, 0, un (wd m.words 1)⟩) (down' := m.down) (last' := m.last) hx hc rfl h.w64 (by omega) (by omega) (by omega) rfl rfl
          (fun e => absurd e (by show ¬ (0 : Int) ≤ -1; omega)) (fun _ => ⟨rfl, rfl, rfl⟩) h.up (fun e hd => (nd e hd).elim)
      · rw [if_neg q3]
        have key := h.step hmv (x' := { x with b := wd m.words 1, line := 3 }) (c' := c) (words' := m.words) (acc := ⟨m.moves, t, 1, 1, 0, 0, un (wd m.words 1)⟩) (down' := m.down) (last' := m.last) hx hc rfl h.w64 (by omega) (by omega) (by omega) rfl rfl
          (fun _ => ⟨rfl, .inr (.inr ⟨o, by show (1 : Int) ≤ 3; omega, by show (3 : Int) ≤ 4; omega, fun _ => hxt⟩)⟩) (fun _ => ⟨rfl, rfl, rfl⟩) h.up (fun e hd => (nd e hd).elim)
        rw [self] at key; exact key
    rw [if_neg q2]
    by_cases q3 : x.line = 3
    · rw [if_pos q3]
      have key := h.step hmv (x' := { x with v := wd m.words (2 + x.t % m.room).toNat, line := 4 }) (c' := c) (words' := m.words) (acc := ⟨m.moves, t, 1, 2 + x.t % m.room, 0, 0, un (wd m.words (2 + x.t % m.room).toNat)⟩) (down' := m.down) (last' := m.last) hx hc rfl h.w64 (by omega) (by omega) (by omega) rfl rfl
        (fun _ => ⟨rfl, .inr (.inr ⟨o, by show (1 : Int) ≤ 4; omega, by show (4 : Int) ≤ 4; omega, fun _ => hxt⟩)⟩) (fun _ => ⟨rfl, rfl, rfl⟩) h.up (fun e hd => (nd e hd).elim)
      rw [self] at key; exact key
    rw [if_neg q3]
    by_cases q4 : wd m.words 0 = x.t
    · rw [if_pos q4]
      have es : swp m.words 0 x.t (x.t + 1) = m.words.set 0 (x.t + 1) := by simp [swp, q4]
      have key := h.step hmv (x' := { x with call := -1 }) (c' := { c with point := if 0 ≤ m.down ∧ m.last = x.t then m.down else m.moves, stop := m.moves, ak := 2, av := x.v }) (words' := m.words.set 0 (x.t + 1)) (acc := ⟨m.moves, t, 3, 0, un x.t, un (x.t + 1), un (wd m.words 0)⟩) (down' := m.down) (last' := m.last) hx hc (by simp) (w0 _ (hI (by omega) (by omega))) (by rw [e00]; omega) (by rw [e00]; omega) (by rw [e01]; omega) rfl rfl
        (fun e => absurd e (by show ¬ (0 : Int) ≤ -1; omega)) (fun _ => ⟨e01 _, rfl, rfl⟩) (fun hd => by rw [e01]; exact h.up hd) (fun e hd => (nd e hd).elim)
      unfold dswap; rw [es]; exact key
    · rw [if_neg q4]
      have es : swp m.words 0 x.t (x.t + 1) = m.words := by simp [swp, q4]
      have key := h.step hmv (x' := { x with line := 1 }) (c' := c) (words' := m.words) (acc := ⟨m.moves, t, 3, 0, un x.t, un (x.t + 1), un (wd m.words 0)⟩) (down' := m.down) (last' := m.last) hx hc rfl h.w64 (by omega) (by omega) (by omega) rfl rfl
        (fun _ => ⟨rfl, .inr (.inr ⟨o, by show (1 : Int) ≤ 1; omega, by show (1 : Int) ≤ 4; omega, fun e => absurd e (by show ¬ (2 : Int) ≤ 1; omega)⟩)⟩) (fun _ => ⟨rfl, rfl, rfl⟩) h.up (fun e hd => (nd e hd).elim)
      rw [self] at key
      unfold dswap; rw [es]; exact key

theorem Inv.tick {m : DM} (h : m.Inv) (hmv : m.moves < 65536) : Inv { m with moves := m.moves + 1 } :=
  ⟨h.room, h.len, h.nth, h.w64, ⟨by have := h.mv; show 0 ≤ m.moves + 1; omega, by show m.moves + 1 ≤ 65536; omega⟩, by have := h.ncalls; show (m.calls.length : Int) ≤ m.moves + 1; omega, by have := h.ntrace; show (m.trace.length : Int) ≤ m.moves + 1; omega,
    by have := h.top; exact ⟨this.1, by show wd m.words 0 ≤ m.moves + 1; omega⟩, by have := h.bot; exact ⟨this.1, by show wd m.words 1 ≤ m.moves + 1; omega⟩, h.args, h.ths, h.up, h.dn⟩

theorem Inv.begun {m : DM} (h : m.Inv) (hmv : m.moves < 65536) {t : Nat} {x : Th} {op arg data : Int} (hx : m.all[t]? = some x) (hb : x.call < 0) (harg : I64 arg) (hl : legal t op = true) :
    Inv { m.begins t op arg data with moves := m.moves + 1 } := by
  have hlt : t < m.all.length := (List.getElem?_eq_some_iff.1 hx).1
  have old : ∀ (i : Nat) (d : ACall), m.calls[i]? = some d → (m.calls ++ [callNew t op arg data m.moves])[i]? = some d := fun i d hd => by
    rw [List.getElem?_append_left (List.getElem?_eq_some_iff.1 hd).1]; exact hd
  refine ⟨h.room, h.len, by simpa [begins] using h.nth, h.w64, ⟨by have := h.mv; show 0 ≤ m.moves + 1; omega, by show m.moves + 1 ≤ 65536; omega⟩, ?_, by have := h.ntrace; show (m.trace.length : Int) ≤ m.moves + 1; omega,
    by have := h.top; exact ⟨this.1, by show wd m.words 0 ≤ m.moves + 1; omega⟩, by have := h.bot; exact ⟨this.1, by show wd m.words 1 ≤ m.moves + 1; omega⟩, ?_, ?_, h.up, ?_⟩
  · have := h.ncalls; show ((m.calls ++ [_]).length : Int) ≤ m.moves + 1; rw [List.length_append]; simp; omega
  · intro c hc
    rcases List.mem_append.1 hc with hc | hc
    · exact h.args c hc
    · simp at hc; subst hc; exact harg
  · intro t2 x2 hx2 hb2
    by_cases e : t = t2
    · subst e
      have : x2 = ⟨m.calls.length, 1, 0, 0, 0⟩ := by simp [begins, hlt] at hx2; exact hx2.symm
      subst this
      refine ⟨callNew t op arg data m.moves, by show (m.calls ++ [_])[((m.calls.length : Int)).toNat]? = _; simp, ?_⟩
      show ThP _ _ _ _ t _ op
      unfold legal at hl
      simp only [Bool.or_eq_true, Bool.and_eq_true, decide_eq_true_eq] at hl
      rcases hl with hl | ⟨hl | hl, ht⟩
      · exact .inr (.inr ⟨hl, by show (1 : Int) ≤ 1; omega, by show (1 : Int) ≤ 4; omega, fun e => absurd e (by show ¬ (2 : Int) ≤ 1; omega)⟩)
      · exact .inl ⟨hl, by omega, by show (1 : Int) ≤ 1; omega, by show (1 : Int) ≤ 4; omega, fun e => absurd e (by show ¬ (2 : Int) ≤ 1; omega)⟩
      · exact .inr (.inl ⟨hl, by omega, by show (1 : Int) ≤ 1; omega, by show (1 : Int) ≤ 8; omega, fun e => absurd e (by show ¬ (1 : Int) = 2; omega), fun e => absurd e (by show ¬ (3 : Int) ≤ 1; omega), fun e => absurd e (by show ¬ (4 : Int) ≤ 1; omega), fun e => absurd e (by show ¬ (5 : Int) ≤ 1; omega)⟩)
    · have hx2' : m.all[t2]? = some x2 := by simpa [begins, e] using hx2
      obtain ⟨d, hd, hp⟩ := h.ths t2 x2 hx2' hb2
      exact ⟨d, old _ _ hd, hp⟩
  · intro hd
    obtain ⟨y, d, r1, r2, r3, r4, r5⟩ := h.dn hd
    have e : t ≠ 0 := by rintro rfl; rw [hx] at r1; injection r1 with r1; subst r1; omega
    exact ⟨y, d, by show (m.all.set t _)[0]? = _; rw [List.getElem?_set_ne e]; exact r1, r2, old _ _ r3, r4, r5⟩

theorem Inv.moved {m : DM} (h : m.Inv) (v : Mv) (harg : I64 v.arg) : Inv (m.move v).1 := by
  unfold move
  split
  · exact h
  · rename_i hm
    have hmv : m.moves < 65536 := by omega
    show Inv { (m.move0 v).1 with moves := m.moves + 1 }
    unfold move0
    split
    · exact h.tick hmv
    · rename_i hth
      obtain ⟨t, ht⟩ := Int.eq_ofNat_of_zero_le (show 0 ≤ v.thread by omega)
      have hlt : t < m.all.length := by omega
      have hx := List.getElem?_eq_getElem hlt
      have hT : v.thread.toNat = t := by omega
      have hth' : m.th v.thread.toNat = m.all[t] := by rw [hT]; exact th_of hx
      split
      · split
        · exact h.tick hmv
        · rename_i hc
          rw [hth'] at hc
          rw [hT]
          exact h.stepped hmv hx (by omega)
      · split
        · exact h.tick hmv
        · rename_i hc
          rw [hth', not_or] at hc
          obtain ⟨c1, c2⟩ := hc
          rw [hT]
          refine h.begun hmv hx (by omega) harg ?_
          rw [← ht]
          simpa using c2

theorem Inv.start (threads room : Nat) (h1 : 1 ≤ threads) (h2 : threads ≤ 16) (h3 : 1 ≤ room) (h4 : room ≤ 256) : Inv (init threads room) := by
  have wz : ∀ i, wd (List.replicate (2 + room) (0 : Int)) i = 0 := fun i => by
    unfold wd
    rw [List.getElem?_replicate]
    split <;> rfl
  refine ⟨⟨by show (1 : Int) ≤ room; omega, by show (room : Int) ≤ 256; omega⟩, by simp [init], by simp [init]; omega, fun i => by show I64 (wd (List.replicate (2 + room) 0) i); rw [wz]; exact ⟨by omega, by omega⟩, ⟨by show (0 : Int) ≤ 0; omega, by show (0 : Int) ≤ 65536; omega⟩, by simp [init], by simp [init],
    by show 0 ≤ wd (List.replicate (2 + room) 0) 0 ∧ wd (List.replicate (2 + room) 0) 0 ≤ 0; rw [wz]; omega, by show -1 ≤ wd (List.replicate (2 + room) 0) 1 ∧ wd (List.replicate (2 + room) 0) 1 ≤ 0; rw [wz]; omega, by simp [init], ?_, ?_, ?_⟩
  · intro t x hx hb
    have : x = noTh := by
      have := List.mem_of_getElem? hx
      exact List.eq_of_mem_replicate this
    subst this
    exact absurd hb (by show ¬ (0 : Int) ≤ -1; omega)
  · intro _; show 0 ≤ wd (List.replicate (2 + room) 0) 1; rw [wz]; omega
  · intro hd; exact absurd hd (by show ¬ (0 : Int) ≤ -1; omega)

end DM
end Go.Proofs.Ythifeaigdobonaa
