/- A step of a deque's call: the program's task does what the plain machine DM does. A step of a take: the program's task does what the plain machine DM does. -/
import Derived.Test.YthifeaigdobonaaDi
import Derived.Test.YthifeaigdobonaaTsk
namespace Go.Proofs.Ythifeaigdobonaa
open Go.RowKit DM

/-- A method of a task, bound to it. -/
abbrev mval (f : FuncId) (bt : Nat) : Value := .func (.func f) #[.pointer (some ⟨bt, 0, none⟩)] #[]

def pushNext (line : Int) : FuncId := if line = 1 then 146 else if line = 2 then 148 else if line = 3 then 154 else 161
def takeNext (line : Int) : FuncId := if line = 1 then 164 else if line = 2 then 165 else if line = 3 then 166 else if line = 4 then 168 else if line = 5 then 167 else if line = 6 then 169 else 171
def stealNext (line : Int) : FuncId := if line = 1 then 175 else if line = 2 then 176 else if line = 3 then 177 else 178

def tyOf (op : Int) : TypeId := if op = 90 then 112 else if op = 91 then 119 else 122

/-- A task's block against the plain machine's thread. -/
def TaskOK (bh bt : Nat) (c : ACall) (x : Th) (ready : Bool) (o : Obj) : Prop :=
  (c.op = 90 ∧ ∃ nx b t, o = tkO 117 bh nx b t c.arg [] ∧ (ready = false → x.line = 1) ∧ (ready = true → nx = mval (pushNext x.line) bt) ∧ (2 ≤ x.line → b = x.b)) ∨
  (c.op = 91 ∧ ∃ nx b t v got, o = tkO 121 bh nx b t v [.bool got] ∧ (ready = false → x.line = 1) ∧ (ready = true → nx = mval (takeNext x.line) bt) ∧ (2 ≤ x.line → b = x.b - 1) ∧ (4 ≤ x.line → t = x.t) ∧ (6 ≤ x.line → v = x.v) ∧ (7 ≤ x.line → got = decide (x.line = 7))) ∨
  (c.op = 92 ∧ ∃ nx b t v, o = tkO 123 bh nx b t v [] ∧ (ready = false → x.line = 1) ∧ (ready = true → nx = mval (stealNext x.line) bt) ∧ (2 ≤ x.line → t = x.t) ∧ (4 ≤ x.line → v = x.v))

def FlagOK (m : DM) (hl : Bool) : Prop :=
  0 ≤ m.down → hl = false → ∀ (t : Nat) (x : Th) (c : ACall), m.all[t]? = some x → 0 ≤ x.call → m.calls[x.call.toNat]? = some c → c.op = 92 → 3 ≤ x.line → x.t = m.last → m.last < wd m.words 0

def HubOK (m : DM) (hub : Obj) : Prop :=
  ∃ hl rank at_, hub = hubO m.room (wd m.words 0) hl rank at_ ∧ (m.down < 0 → hl = false) ∧ (0 ≤ m.down → rank = m.last ∧ at_ = m.down) ∧ FlagOK m hl

theorem step_eq {m : DM} {t : Nat} {x : Th} {c : ACall} (hx : m.all[t]? = some x) (hc : m.calls[x.call.toNat]? = some c) :
    m.step t = (if c.op = 90 then m.push t x c else if c.op = 91 then m.take t x c else if c.op = 92 then m.steal t x c else m) := by
  unfold DM.step; simp only [th_of hx, call_of hc]

/-- What a step comes to. -/
def StepOut (W : World) (m : DM) (t : Nat) (x : Th) (c : ACall) (bt bh : Nat) (o hub : Obj) (ready : Bool) : Prop :=
  ∃ o1 o2 hub2 p a over x' c', TaskDoes W (tyOf c.op) bt t m.moves (m.words.map un) m.trace (pt bt o + pt bh hub) (pt bt o1 + pt bh hub) ((m.step t).words.map un) (m.step t).trace (pt bt o2 + pt bh hub2) p a over ready ∧
    (m.step t).all = m.all.set t x' ∧ (m.step t).calls = m.calls.set x.call.toNat c' ∧ (∀ s : ASeat, callAfter over m.moves (anOf a s) (ptOf p c) = c') ∧ (m.step t).moves = m.moves ∧ (m.step t).room = m.room ∧
    (over = true → x'.call < 0) ∧ (over = false → x'.call = x.call ∧ c'.op = c.op ∧ TaskOK bh bt c' x' true o2) ∧ HubOK (m.step t) hub2

/-- The flag through a step that leaves the owner's take as it was. -/
theorem FlagOK.kept {m m' : DM} {hl : Bool} {t : Nat} {x x' : Th} {c c' : ACall} (h : FlagOK m hl) (hx : m.all[t]? = some x) (hc : m.calls[x.call.toNat]? = some c)
    (ha : m'.all = m.all.set t x') (hcs : m'.calls = m.calls.set x.call.toNat c') (hop : c'.op = c.op) (hd : m'.down = m.down) (hl' : m'.last = m.last) (htop : wd m.words 0 ≤ wd m'.words 0)
    (hx' : 0 ≤ m.down → hl = false → 0 ≤ x'.call → x'.call = x.call ∧ (c.op = 92 → 3 ≤ x'.line → x'.t = m.last → m.last < wd m'.words 0)) : FlagOK m' hl := by
  intro h1 h2 t2 y d hy hb hcd ho hli hyt
  rw [hd] at h1
  rw [hl'] at hyt ⊢
  have hlt : t < m.all.length := (List.getElem?_eq_some_iff.1 hx).1
  have hcl : x.call.toNat < m.calls.length := (List.getElem?_eq_some_iff.1 hc).1
  rw [ha] at hy
  rw [hcs] at hcd
  by_cases e : t = t2
  · subst e
    have : y = x' := by simp [hlt] at hy; exact hy.symm
    subst this
    obtain ⟨r1, r2⟩ := hx' h1 h2 hb
    rw [r1] at hcd
    have : d = c' := by simp [hcl] at hcd; exact hcd.symm
    subst this
    exact r2 (by rw [← hop]; exact ho) hli hyt
  · have hy' : m.all[t2]? = some y := by simpa [e] using hy
    have hd2 : ∃ d2, m.calls[y.call.toNat]? = some d2 ∧ d2.op = 92 := by
      by_cases e2 : x.call.toNat = y.call.toNat
      · rw [← e2] at hcd ⊢
        have : d = c' := by simp [hcl] at hcd; exact hcd.symm
        subst this
        exact ⟨c, hc, by rw [← hop]; exact ho⟩
      · exact ⟨d, by rw [List.getElem?_set_ne e2] at hcd; exact hcd, ho⟩
    obtain ⟨d2, r1, r2⟩ := hd2
    have := h h1 h2 t2 y d2 hy' hb r1 r2 hli hyt
    omega

theorem self_set {l : List ACall} {i : Nat} {c : ACall} (hc : l[i]? = some c) : l.set i c = l := by
  obtain ⟨hlt, he⟩ := List.getElem?_eq_some_iff.1 hc
  rw [← he]; exact List.set_getElem_self hlt

set_option maxHeartbeats 1000000 in
theorem ps_1 (W : World) {m : DM} (hi : m.Inv) (_hmv : m.moves < 65536) {t : Nat} {x : Th} {c : ACall} {bt bh : Nat} {nx : Value} {b' t' : Int} {ready : Bool} {hl : Bool} {rank at_ : Int} (hx : m.all[t]? = some x) (_hb : 0 ≤ x.call) (hc : m.calls[x.call.toNat]? = some c) (ho : c.op = 90)
    (hline : x.line = 1) (_hr0 : ready = false → x.line = 1) (hr1 : ready = true → nx = mval (pushNext x.line) bt)
    (hd0 : m.down < 0 → hl = false) (hd1 : 0 ≤ m.down → rank = m.last ∧ at_ = m.down) (hf : FlagOK m hl) :
    StepOut W m t x c bt bh (tkO 117 bh nx b' t' c.arg []) (hubO m.room (wd m.words 0) hl rank at_) ready := by
  have hl3 := hi.lens
  have htop := hi.top
  have hbot := hi.bot
  have hm0 := hi.mv
  have hlog : m.trace.length < 1048576 := by have := hi.ntrace; omega
  have hstep : m.step t = (m.dload t 1).setTh t { x with b := wd m.words 1, line := 2 } := by
    rw [step_eq hx hc]
    unfold DM.push
    simp only [ho, hline, if_true, if_false, Int.reduceEq]
  have hn : pushNext x.line = 146 := by unfold pushNext; rw [hline]; rfl
  have ht : tyOf c.op = 112 := by unfold tyOf; rw [ho]; rfl
  refine ⟨(tkO 117 bh (mval 146 bt) b' t' c.arg []), (tkO 117 bh (mval 148 bt) (wd m.words 1) t' c.arg []), (hubO m.room (wd m.words 0) hl rank at_), none, none, false, { x with b := wd m.words 1, line := 2 }, c, ?_, ?_, ?_, ?_, ?_, ?_, ?_, ?_, ?_⟩
  · rw [ht, hstep]
    refine does_of W _ bt bh t m.moves m.words m.words m.trace (m.trace ++ [⟨m.moves, t, 1, 1, 0, 0, un (wd m.words 1)⟩]) (tkO 117 bh nx b' t' c.arg []) (tkO 117 bh (mval 146 bt) b' t' c.arg []) (tkO 117 bh (mval 148 bt) (wd m.words 1) t' c.arg []) (hubO m.room (wd m.words 0) hl rank at_) (hubO m.room (wd m.words 0) hl rank at_) none none false ready 143 (fun hr => by rw [hr1 hr, hn]) (fun w => by kernel_rfl) (fun w => by kernel_rfl) (fun args w => by kernel_rfl) (fun _ q w S F cs ss e1 e2 e3 e4 hE h => by subst e1; subst e2; exact push_ready W w q m.words m.trace m.room (wd m.words 0) rank at_ hl cs ss S F nx b' t' c.arg hE h) ?_
    intro q w S F cs ss e1 e2 e3 e4 hE h
    subst e1; subst e2
    have key := callstep W w q m.words _ m.trace _ _ _ _ _ _ _ _ _ cs ss _ _ S F 146 false (fun args w => by kernel_rfl) hE h (push_bottom W w q m.words m.trace m.room (wd m.words 0) rank at_ hl cs ss S F _ b' t' c.arg (by omega) (hi.w64 1) hlog hE h)
    rw [e3, e4] at key
    exact key
  · rw [hstep]; rfl
  · rw [hstep]; exact (self_set hc).symm
  · intro s; rfl
  · rw [hstep]; rfl
  · rw [hstep]; rfl
  · intro h; cases h
  · intro _; exact ⟨rfl, rfl, .inl ⟨ho, _, _, _, rfl, (fun h => by cases h), fun _ => rfl, fun _ => rfl⟩⟩
  · rw [hstep]
    refine ⟨hl, rank, at_, rfl, hd0, hd1, ?_⟩
    exact hf.kept (m' := _) hx hc (x' := { x with b := wd m.words 1, line := 2 }) (c' := c) rfl (self_set hc).symm rfl rfl rfl (by show wd m.words 0 ≤ wd m.words 0; omega) (fun _ _ _ => ⟨rfl, fun e => absurd e (by omega)⟩)

set_option maxHeartbeats 1000000 in
theorem ps_full (W : World) {m : DM} (hi : m.Inv) (_hmv : m.moves < 65536) {t : Nat} {x : Th} {c : ACall} {bt bh : Nat} {nx : Value} {t' : Int} {ready : Bool} {hl : Bool} {rank at_ : Int} (hx : m.all[t]? = some x) (_hb : 0 ≤ x.call) (hc : m.calls[x.call.toNat]? = some c) (ho : c.op = 90)
    (hline : x.line = 2) (hr0 : ready = false → x.line = 1) (hr1 : ready = true → nx = mval (pushNext x.line) bt) (h0 : m.room ≤ x.b - wd m.words 0) (_h1 : -1 ≤ x.b ∧ x.b ≤ 65537)
    (hd0 : m.down < 0 → hl = false) (hd1 : 0 ≤ m.down → rank = m.last ∧ at_ = m.down) (hf : FlagOK m hl) :
    StepOut W m t x c bt bh (tkO 117 bh nx x.b t' c.arg []) (hubO m.room (wd m.words 0) hl rank at_) ready := by
  have hl3 := hi.lens
  have htop := hi.top
  have hbot := hi.bot
  have hm0 := hi.mv
  have hlog : m.trace.length < 1048576 := by have := hi.ntrace; omega
  have hstep : m.step t = (m.dload t 0).fin t { x with t := wd m.words 0 } { c with point := m.moves } 4 0 := by
    rw [step_eq hx hc]
    unfold DM.push
    simp only [ho, hline, h0, if_true, if_false, Int.reduceEq]
  have hn : pushNext x.line = 148 := by unfold pushNext; rw [hline]; rfl
  have ht : tyOf c.op = 112 := by unfold tyOf; rw [ho]; rfl
  refine ⟨(tkO 117 bh (mval 148 bt) x.b t' c.arg []), (tkO 117 bh (mval 148 bt) x.b t' c.arg []), (hubO m.room (wd m.words 0) hl rank at_), (some m.moves), (some (4, 0)), true, { x with t := wd m.words 0, call := -1 }, { c with point := m.moves, stop := m.moves, ak := 4, av := 0 }, ?_, ?_, ?_, ?_, ?_, ?_, ?_, ?_, ?_⟩
  · rw [ht, hstep]
    refine does_of W _ bt bh t m.moves m.words m.words m.trace (m.trace ++ [⟨m.moves, t, 1, 0, 0, 0, un (wd m.words 0)⟩]) (tkO 117 bh nx x.b t' c.arg []) (tkO 117 bh (mval 148 bt) x.b t' c.arg []) (tkO 117 bh (mval 148 bt) x.b t' c.arg []) (hubO m.room (wd m.words 0) hl rank at_) (hubO m.room (wd m.words 0) hl rank at_) (some m.moves) (some (4, 0)) true ready 143 (fun hr => by rw [hr1 hr, hn]) (fun w => by kernel_rfl) (fun w => by kernel_rfl) (fun args w => by kernel_rfl) (fun hr => absurd (hr0 hr) (by omega)) ?_
    intro q w S F cs ss e1 e2 e3 e4 hE h
    subst e1; subst e2
    have key := callstep W w q m.words _ m.trace _ _ _ _ _ _ _ _ _ cs ss _ _ S F 148 true (fun args w => by kernel_rfl) hE h (push_full W w q m.words m.trace m.room (wd m.words 0) rank at_ hl cs ss S F _ x.b t' c.arg (by omega) (hi.w64 0) hlog h0 (by omega) (by omega) hE h)
    rw [e3, e4] at key
    exact key
  · rw [hstep]; rfl
  · rw [hstep]; rfl
  · intro s; rfl
  · rw [hstep]; rfl
  · rw [hstep]; rfl
  · intro _; show (-1 : Int) < 0; omega
  · intro h; cases h
  · rw [hstep]
    refine ⟨hl, rank, at_, rfl, hd0, hd1, ?_⟩
    exact hf.kept (m' := _) hx hc (x' := { x with t := wd m.words 0, call := -1 }) (c' := { c with point := m.moves, stop := m.moves, ak := 4, av := 0 }) rfl rfl rfl rfl rfl (by show wd m.words 0 ≤ wd m.words 0; omega) (fun _ _ hb' => absurd hb' (by show ¬ (0 : Int) ≤ -1; omega))

set_option maxHeartbeats 1000000 in
theorem ps_2 (W : World) {m : DM} (hi : m.Inv) (_hmv : m.moves < 65536) {t : Nat} {x : Th} {c : ACall} {bt bh : Nat} {nx : Value} {t' : Int} {ready : Bool} {hl : Bool} {rank at_ : Int} (hx : m.all[t]? = some x) (_hb : 0 ≤ x.call) (hc : m.calls[x.call.toNat]? = some c) (ho : c.op = 90)
    (hline : x.line = 2) (hr0 : ready = false → x.line = 1) (hr1 : ready = true → nx = mval (pushNext x.line) bt) (h0 : ¬ m.room ≤ x.b - wd m.words 0) (_h1 : -1 ≤ x.b ∧ x.b ≤ 65537)
    (hd0 : m.down < 0 → hl = false) (hd1 : 0 ≤ m.down → rank = m.last ∧ at_ = m.down) (hf : FlagOK m hl) :
    StepOut W m t x c bt bh (tkO 117 bh nx x.b t' c.arg []) (hubO m.room (wd m.words 0) hl rank at_) ready := by
  have hl3 := hi.lens
  have htop := hi.top
  have hbot := hi.bot
  have hm0 := hi.mv
  have hlog : m.trace.length < 1048576 := by have := hi.ntrace; omega
  have hstep : m.step t = (m.dload t 0).setTh t { x with t := wd m.words 0, line := 3 } := by
    rw [step_eq hx hc]
    unfold DM.push
    simp only [ho, hline, h0, if_true, if_false, Int.reduceEq]
  have hn : pushNext x.line = 148 := by unfold pushNext; rw [hline]; rfl
  have ht : tyOf c.op = 112 := by unfold tyOf; rw [ho]; rfl
  refine ⟨(tkO 117 bh (mval 148 bt) x.b t' c.arg []), (tkO 117 bh (mval 154 bt) x.b t' c.arg []), (hubO m.room (wd m.words 0) hl rank at_), none, none, false, { x with t := wd m.words 0, line := 3 }, c, ?_, ?_, ?_, ?_, ?_, ?_, ?_, ?_, ?_⟩
  · rw [ht, hstep]
    refine does_of W _ bt bh t m.moves m.words m.words m.trace (m.trace ++ [⟨m.moves, t, 1, 0, 0, 0, un (wd m.words 0)⟩]) (tkO 117 bh nx x.b t' c.arg []) (tkO 117 bh (mval 148 bt) x.b t' c.arg []) (tkO 117 bh (mval 154 bt) x.b t' c.arg []) (hubO m.room (wd m.words 0) hl rank at_) (hubO m.room (wd m.words 0) hl rank at_) none none false ready 143 (fun hr => by rw [hr1 hr, hn]) (fun w => by kernel_rfl) (fun w => by kernel_rfl) (fun args w => by kernel_rfl) (fun hr => absurd (hr0 hr) (by omega)) ?_
    intro q w S F cs ss e1 e2 e3 e4 hE h
    subst e1; subst e2
    have key := callstep W w q m.words _ m.trace _ _ _ _ _ _ _ _ _ cs ss _ _ S F 148 false (fun args w => by kernel_rfl) hE h (push_look W w q m.words m.trace m.room (wd m.words 0) rank at_ hl cs ss S F _ x.b t' c.arg (by omega) (hi.w64 0) hlog (by omega) (by omega) (by omega) hE h)
    rw [e3, e4] at key
    exact key
  · rw [hstep]; rfl
  · rw [hstep]; exact (self_set hc).symm
  · intro s; rfl
  · rw [hstep]; rfl
  · rw [hstep]; rfl
  · intro h; cases h
  · intro _; exact ⟨rfl, rfl, .inl ⟨ho, _, _, _, rfl, (fun h => by cases h), fun _ => rfl, fun _ => rfl⟩⟩
  · rw [hstep]
    refine ⟨hl, rank, at_, rfl, hd0, hd1, ?_⟩
    exact hf.kept (m' := _) hx hc (x' := { x with t := wd m.words 0, line := 3 }) (c' := c) rfl (self_set hc).symm rfl rfl rfl (by show wd m.words 0 ≤ wd m.words 0; omega) (fun _ _ _ => ⟨rfl, fun e => absurd e (by omega)⟩)

set_option maxHeartbeats 1000000 in
theorem ps_3 (W : World) {m : DM} (hi : m.Inv) (_hmv : m.moves < 65536) {t : Nat} {x : Th} {c : ACall} {bt bh : Nat} {nx : Value} {t' : Int} {ready : Bool} {hl : Bool} {rank at_ : Int} (hx : m.all[t]? = some x) (_hb : 0 ≤ x.call) (hc : m.calls[x.call.toNat]? = some c) (ho : c.op = 90)
    (hline : x.line = 3) (hr0 : ready = false → x.line = 1) (hr1 : ready = true → nx = mval (pushNext x.line) bt) (_h0 : 0 ≤ x.b ∧ x.b ≤ 65537)
    (hd0 : m.down < 0 → hl = false) (hd1 : 0 ≤ m.down → rank = m.last ∧ at_ = m.down) (hf : FlagOK m hl) :
    StepOut W m t x c bt bh (tkO 117 bh nx x.b t' c.arg []) (hubO m.room (wd m.words 0) hl rank at_) ready := by
  have hl3 := hi.lens
  have htop := hi.top
  have hbot := hi.bot
  have hm0 := hi.mv
  have hlog : m.trace.length < 1048576 := by have := hi.ntrace; omega
  have he := Int.emod_nonneg x.b (show m.room ≠ 0 by have := hi.room; omega)
  have f0 : wd (m.words.set (2 + x.b % m.room).toNat c.arg) 0 = wd m.words 0 := by rw [wd_set, if_neg (by omega)]
  have hstep : m.step t = (m.dstore t (2 + x.b % m.room) c.arg).setTh t { x with line := 4 } := by
    rw [step_eq hx hc]
    unfold DM.push
    simp only [ho, hline, if_true, if_false, Int.reduceEq]
  have hn : pushNext x.line = 154 := by unfold pushNext; rw [hline]; rfl
  have ht : tyOf c.op = 112 := by unfold tyOf; rw [ho]; rfl
  refine ⟨(tkO 117 bh (mval 154 bt) x.b t' c.arg []), (tkO 117 bh (mval 161 bt) x.b t' c.arg []), (hubO m.room (wd m.words 0) hl rank at_), none, none, false, { x with line := 4 }, c, ?_, ?_, ?_, ?_, ?_, ?_, ?_, ?_, ?_⟩
  · rw [ht, hstep]
    refine does_of W _ bt bh t m.moves m.words (m.words.set (2 + x.b % m.room).toNat c.arg) m.trace (m.trace ++ [⟨m.moves, t, 2, 2 + x.b % m.room, 0, un c.arg, 0⟩]) (tkO 117 bh nx x.b t' c.arg []) (tkO 117 bh (mval 154 bt) x.b t' c.arg []) (tkO 117 bh (mval 161 bt) x.b t' c.arg []) (hubO m.room (wd m.words 0) hl rank at_) (hubO m.room (wd m.words 0) hl rank at_) none none false ready 143 (fun hr => by rw [hr1 hr, hn]) (fun w => by kernel_rfl) (fun w => by kernel_rfl) (fun args w => by kernel_rfl) (fun hr => absurd (hr0 hr) (by omega)) ?_
    intro q w S F cs ss e1 e2 e3 e4 hE h
    subst e1; subst e2
    have key := callstep W w q m.words _ m.trace _ _ _ _ _ _ _ _ _ cs ss _ _ S F 154 false (fun args w => by kernel_rfl) hE h (push_fill W w q m.words m.trace m.room (wd m.words 0) rank at_ hl cs ss S F _ x.b t' c.arg (by omega) (by omega) hi.room.1 hi.room.2 hi.len hlog hE h)
    rw [e3, e4] at key
    exact key
  · rw [hstep]; rfl
  · rw [hstep]; exact (self_set hc).symm
  · intro s; rfl
  · rw [hstep]; rfl
  · rw [hstep]; rfl
  · intro h; cases h
  · intro _; exact ⟨rfl, rfl, .inl ⟨ho, _, _, _, rfl, (fun h => by cases h), fun _ => rfl, fun _ => rfl⟩⟩
  · rw [hstep]
    refine ⟨hl, rank, at_, by show hubO m.room (wd m.words 0) hl rank at_ = hubO m.room (wd (m.words.set (2 + x.b % m.room).toNat c.arg) 0) hl rank at_; rw [f0], hd0, hd1, ?_⟩
    exact hf.kept (m' := _) hx hc (x' := { x with line := 4 }) (c' := c) rfl (self_set hc).symm rfl rfl rfl (by show wd m.words 0 ≤ wd (m.words.set (2 + x.b % m.room).toNat c.arg) 0; rw [f0]; omega) (fun _ _ _ => ⟨rfl, fun e => absurd e (by omega)⟩)

set_option maxHeartbeats 1000000 in
theorem ps_4 (W : World) {m : DM} (hi : m.Inv) (_hmv : m.moves < 65536) {t : Nat} {x : Th} {c : ACall} {bt bh : Nat} {nx : Value} {t' : Int} {ready : Bool} {hl : Bool} {rank at_ : Int} (hx : m.all[t]? = some x) (_hb : 0 ≤ x.call) (hc : m.calls[x.call.toNat]? = some c) (ho : c.op = 90)
    (hline : x.line = 4) (hr0 : ready = false → x.line = 1) (hr1 : ready = true → nx = mval (pushNext x.line) bt) (_h0 : -1 ≤ x.b ∧ x.b ≤ 65537)
    (hd0 : m.down < 0 → hl = false) (hd1 : 0 ≤ m.down → rank = m.last ∧ at_ = m.down) (hf : FlagOK m hl) :
    StepOut W m t x c bt bh (tkO 117 bh nx x.b t' c.arg []) (hubO m.room (wd m.words 0) hl rank at_) ready := by
  have hl3 := hi.lens
  have htop := hi.top
  have hbot := hi.bot
  have hm0 := hi.mv
  have hlog : m.trace.length < 1048576 := by have := hi.ntrace; omega
  have f0 : wd (m.words.set 1 (x.b + 1)) 0 = wd m.words 0 := by rw [wd_set, if_neg (by omega)]
  have hstep : m.step t = (m.dstore t 1 (x.b + 1)).fin t x { c with point := m.moves } 1 0 := by
    rw [step_eq hx hc]
    unfold DM.push
    simp only [ho, hline, if_true, if_false, Int.reduceEq]
  have hn : pushNext x.line = 161 := by unfold pushNext; rw [hline]; rfl
  have ht : tyOf c.op = 112 := by unfold tyOf; rw [ho]; rfl
  refine ⟨(tkO 117 bh (mval 161 bt) x.b t' c.arg []), (tkO 117 bh (mval 161 bt) x.b t' c.arg []), (hubO m.room (wd m.words 0) hl rank at_), (some m.moves), (some (1, 0)), true, { x with call := -1 }, { c with point := m.moves, stop := m.moves, ak := 1, av := 0 }, ?_, ?_, ?_, ?_, ?_, ?_, ?_, ?_, ?_⟩
  · rw [ht, hstep]
    refine does_of W _ bt bh t m.moves m.words (m.words.set 1 (x.b + 1)) m.trace (m.trace ++ [⟨m.moves, t, 2, 1, 0, un (x.b + 1), 0⟩]) (tkO 117 bh nx x.b t' c.arg []) (tkO 117 bh (mval 161 bt) x.b t' c.arg []) (tkO 117 bh (mval 161 bt) x.b t' c.arg []) (hubO m.room (wd m.words 0) hl rank at_) (hubO m.room (wd m.words 0) hl rank at_) (some m.moves) (some (1, 0)) true ready 143 (fun hr => by rw [hr1 hr, hn]) (fun w => by kernel_rfl) (fun w => by kernel_rfl) (fun args w => by kernel_rfl) (fun hr => absurd (hr0 hr) (by omega)) ?_
    intro q w S F cs ss e1 e2 e3 e4 hE h
    subst e1; subst e2
    have key := callstep W w q m.words _ m.trace _ _ _ _ _ _ _ _ _ cs ss _ _ S F 161 true (fun args w => by kernel_rfl) hE h (push_tell W w q m.words m.trace m.room (wd m.words 0) rank at_ hl cs ss S F _ x.b t' c.arg (by omega) hlog (by omega) hE h)
    rw [e3, e4] at key
    exact key
  · rw [hstep]; rfl
  · rw [hstep]; rfl
  · intro s; rfl
  · rw [hstep]; rfl
  · rw [hstep]; rfl
  · intro _; show (-1 : Int) < 0; omega
  · intro h; cases h
  · rw [hstep]
    refine ⟨hl, rank, at_, by show hubO m.room (wd m.words 0) hl rank at_ = hubO m.room (wd (m.words.set 1 (x.b + 1)) 0) hl rank at_; rw [f0], hd0, hd1, ?_⟩
    exact hf.kept (m' := _) hx hc (x' := { x with call := -1 }) (c' := { c with point := m.moves, stop := m.moves, ak := 1, av := 0 }) rfl rfl rfl rfl rfl (by show wd m.words 0 ≤ wd (m.words.set 1 (x.b + 1)) 0; rw [f0]; omega) (fun _ _ hb' => absurd hb' (by show ¬ (0 : Int) ≤ -1; omega))

end Go.Proofs.Ythifeaigdobonaa

namespace Go.Proofs.Ythifeaigdobonaa
open Go.RowKit DM

theorem swp_yes {l : List Int} {x y : Int} (h : wd l 0 = x) : swp l 0 x y = l.set 0 y := by simp [swp, h]
theorem swp_no {l : List Int} {x y : Int} (h : ¬ wd l 0 = x) : swp l 0 x y = l := by simp [swp, h]

/-- The flag when the owner's take lowers the bottom. -/
theorem FlagOK.fresh {m m' : DM} (hi : m.Inv) {t : Nat} {x x' : Th} {c c' : ACall} (hx : m.all[t]? = some x) (hc : m.calls[x.call.toNat]? = some c) (ho : c.op = 91)
    (ha : m'.all = m.all.set t x') (hcs : m'.calls = m.calls.set x.call.toNat c') (hop : c'.op = c.op) (hcall : x'.call = x.call) (htop : wd m'.words 0 = wd m.words 0) : FlagOK m' (wd m.words 0 == m'.last) := by
  intro h1 h2 t2 y d hy hb hcd ho2 hli hyt
  have hne : wd m.words 0 ≠ m'.last := by simpa using h2
  have hlt : t < m.all.length := (List.getElem?_eq_some_iff.1 hx).1
  have hcl : x.call.toNat < m.calls.length := (List.getElem?_eq_some_iff.1 hc).1
  rw [ha] at hy
  rw [hcs] at hcd
  by_cases e : t = t2
  · subst e
    have : y = x' := by simp [hlt] at hy; exact hy.symm
    subst this
    rw [hcall] at hcd
    have : d = c' := by simp [hcl] at hcd; exact hcd.symm
    subst this
    omega
  · have hy' : m.all[t2]? = some y := by simpa [e] using hy
    have hd2 : m.calls[y.call.toNat]? = some d := by
      by_cases e2 : x.call.toNat = y.call.toNat
      · rw [← e2] at hcd
        have : d = c' := by simp [hcl] at hcd; exact hcd.symm
        subst this
        omega
      · rwa [List.getElem?_set_ne e2] at hcd
    obtain ⟨d3, hd3, hp⟩ := hi.ths t2 y hy' hb
    rw [hd2] at hd3; injection hd3 with hd3; subst hd3
    rcases hp with ⟨p, _⟩ | ⟨p, _⟩ | ⟨_, _, _, p⟩
    · omega
    · omega
    · have := p (by omega)
      rw [htop]
      omega

theorem Inv.low {m : DM} (hi : m.Inv) (hd : 0 ≤ m.down) : wd m.words 1 = m.last := by
  obtain ⟨y, d, r1, r2, r3, r4, r5⟩ := hi.dn hd
  obtain ⟨d2, r6, hp⟩ := hi.ths 0 y r1 r2
  rw [r3] at r6; injection r6 with r6; subst r6
  rcases hp with ⟨p, _⟩ | ⟨_, _, _, _, _, p, _⟩ | ⟨p, _⟩
  · omega
  · have := p r5; omega
  · omega

set_option maxHeartbeats 1000000 in
theorem tk_1 (W : World) {m : DM} (hi : m.Inv) (_hmv : m.moves < 65536) {t : Nat} {x : Th} {c : ACall} {bt bh : Nat} {nx : Value} {b' t' v' : Int} {got' : Bool} {ready : Bool} {hl : Bool} {rank at_ : Int} (hx : m.all[t]? = some x) (_hb : 0 ≤ x.call) (hc : m.calls[x.call.toNat]? = some c) (ho : c.op = 91)
    (hline : x.line = 1) (_hr0 : ready = false → x.line = 1) (hr1 : ready = true → nx = mval (takeNext x.line) bt)
    (hd0 : m.down < 0 → hl = false) (hd1 : 0 ≤ m.down → rank = m.last ∧ at_ = m.down) (hf : FlagOK m hl) :
    StepOut W m t x c bt bh (tkO 121 bh nx b' t' v' [.bool got']) (hubO m.room (wd m.words 0) hl rank at_) ready := by
  have hl3 := hi.lens
  have htop := hi.top
  have hbot := hi.bot
  have hm0 := hi.mv
  have hlog : m.trace.length < 1048576 := by have := hi.ntrace; omega
  have hstep : m.step t = (m.dload t 1).setTh t { x with b := wd m.words 1, line := 2 } := by
    rw [step_eq hx hc]
    unfold DM.take
    simp only [ho, hline, if_true, if_false, Int.reduceEq]
  have hn : takeNext x.line = 164 := by unfold takeNext; rw [hline]; rfl
  have ht : tyOf c.op = 119 := by unfold tyOf; rw [ho]; rfl
  refine ⟨(tkO 121 bh (mval 164 bt) b' t' v' [.bool got']), (tkO 121 bh (mval 165 bt) (wd m.words 1 - 1) t' v' [.bool got']), (hubO m.room (wd m.words 0) hl rank at_), none, none, false, { x with b := wd m.words 1, line := 2 }, c, ?_, ?_, ?_, ?_, ?_, ?_, ?_, ?_, ?_⟩
  · rw [ht, hstep]
    refine does_of W _ bt bh t m.moves m.words m.words m.trace (m.trace ++ [⟨m.moves, t, 1, 1, 0, 0, un (wd m.words 1)⟩]) (tkO 121 bh nx b' t' v' [.bool got']) (tkO 121 bh (mval 164 bt) b' t' v' [.bool got']) (tkO 121 bh (mval 165 bt) (wd m.words 1 - 1) t' v' [.bool got']) (hubO m.room (wd m.words 0) hl rank at_) (hubO m.room (wd m.words 0) hl rank at_) none none false ready 163 (fun hr => by rw [hr1 hr, hn]) (fun w => by kernel_rfl) (fun w => by kernel_rfl) (fun args w => by kernel_rfl) (fun _ q w S F cs ss e1 e2 e3 e4 hE h => by subst e1; subst e2; exact take_ready W w q m.words m.trace m.room (wd m.words 0) rank at_ hl cs ss S F nx b' t' v' got' hE h) ?_
    intro q w S F cs ss e1 e2 e3 e4 hE h
    subst e1; subst e2
    have key := callstep W w q m.words _ m.trace _ _ _ _ _ _ _ _ _ cs ss _ _ S F 164 false (fun args w => by kernel_rfl) hE h (take_bottom W w q m.words m.trace m.room (wd m.words 0) rank at_ hl cs ss S F _ b' t' v' got' (by omega) (hi.w64 1) hlog (by omega) hE h)
    rw [e3, e4] at key
    exact key
  · rw [hstep]; rfl
  · rw [hstep]; exact (self_set hc).symm
  · intro s; rfl
  · rw [hstep]; rfl
  · rw [hstep]; rfl
  · intro h; cases h
  · intro _; exact ⟨rfl, rfl, .inr (.inl ⟨ho, _, _, _, _, _, rfl, (fun h => by cases h), fun _ => rfl, (fun _ => rfl), (fun h => absurd h (by show ¬ (4 : Int) ≤ 2; omega)), (fun h => absurd h (by show ¬ (6 : Int) ≤ 2; omega)), (fun h => absurd h (by show ¬ (7 : Int) ≤ 2; omega))⟩)⟩
  · rw [hstep]
    refine ⟨hl, rank, at_, rfl, hd0, hd1, ?_⟩
    exact hf.kept (m' := _) hx hc (x' := { x with b := wd m.words 1, line := 2 }) (c' := c) rfl (self_set hc).symm rfl rfl rfl (by show wd m.words 0 ≤ wd m.words 0; omega) (fun _ _ _ => ⟨rfl, fun e => absurd e (by omega)⟩)

set_option maxHeartbeats 1000000 in
theorem tk_2 (W : World) {m : DM} (hi : m.Inv) (_hmv : m.moves < 65536) {t : Nat} {x : Th} {c : ACall} {bt bh : Nat} {nx : Value} {t' v' : Int} {got' : Bool} {ready : Bool} {hl : Bool} {rank at_ : Int} (hx : m.all[t]? = some x) (_hb : 0 ≤ x.call) (hc : m.calls[x.call.toNat]? = some c) (ho : c.op = 91)
    (hline : x.line = 2) (hr0 : ready = false → x.line = 1) (hr1 : ready = true → nx = mval (takeNext x.line) bt)
    (_hd0 : m.down < 0 → hl = false) (_hd1 : 0 ≤ m.down → rank = m.last ∧ at_ = m.down) (_hf : FlagOK m hl) :
    StepOut W m t x c bt bh (tkO 121 bh nx (x.b - 1) t' v' [.bool got']) (hubO m.room (wd m.words 0) hl rank at_) ready := by
  have hl3 := hi.lens
  have htop := hi.top
  have hbot := hi.bot
  have hm0 := hi.mv
  have hlog : m.trace.length < 1048576 := by have := hi.ntrace; omega
  have f0 : wd (m.words.set 1 (x.b - 1)) 0 = wd m.words 0 := by rw [wd_set, if_neg (by omega)]
  have hstep : m.step t = { ((m.dstore t 1 (x.b - 1)).point x c m.moves).setTh t { x with line := 3 } with down := m.moves, last := x.b - 1 } := by
    rw [step_eq hx hc]
    unfold DM.take
    simp only [ho, hline, if_true, if_false, Int.reduceEq]
  have hn : takeNext x.line = 165 := by unfold takeNext; rw [hline]; rfl
  have ht : tyOf c.op = 119 := by unfold tyOf; rw [ho]; rfl
  refine ⟨(tkO 121 bh (mval 165 bt) (x.b - 1) t' v' [.bool got']), (tkO 121 bh (mval 166 bt) (x.b - 1) t' v' [.bool got']), (hubO m.room (wd m.words 0) (wd m.words 0 == x.b - 1) (x.b - 1) m.moves), (some m.moves), none, false, { x with line := 3 }, { c with point := m.moves }, ?_, ?_, ?_, ?_, ?_, ?_, ?_, ?_, ?_⟩
  · rw [ht, hstep]
    refine does_of W _ bt bh t m.moves m.words (m.words.set 1 (x.b - 1)) m.trace (m.trace ++ [⟨m.moves, t, 2, 1, 0, un (x.b - 1), 0⟩]) (tkO 121 bh nx (x.b - 1) t' v' [.bool got']) (tkO 121 bh (mval 165 bt) (x.b - 1) t' v' [.bool got']) (tkO 121 bh (mval 166 bt) (x.b - 1) t' v' [.bool got']) (hubO m.room (wd m.words 0) hl rank at_) (hubO m.room (wd m.words 0) (wd m.words 0 == x.b - 1) (x.b - 1) m.moves) (some m.moves) none false ready 163 (fun hr => by rw [hr1 hr, hn]) (fun w => by kernel_rfl) (fun w => by kernel_rfl) (fun args w => by kernel_rfl) (fun hr => absurd (hr0 hr) (by omega)) ?_
    intro q w S F cs ss e1 e2 e3 e4 hE h
    subst e1; subst e2
    have key := callstep W w q m.words _ m.trace _ _ _ _ _ _ _ _ _ cs ss _ _ S F 165 false (fun args w => by kernel_rfl) hE h (take_lower W w q m.words m.trace m.room (wd m.words 0) rank at_ hl cs ss S F _ (x.b - 1) t' v' got' (by omega) hlog hE h)
    rw [e3, e4] at key
    exact key
  · rw [hstep]; rfl
  · rw [hstep]; rfl
  · intro s; rfl
  · rw [hstep]; rfl
  · rw [hstep]; rfl
  · intro h; cases h
  · intro _; exact ⟨rfl, rfl, .inr (.inl ⟨ho, _, _, _, _, _, rfl, (fun h => by cases h), fun _ => rfl, (fun _ => rfl), (fun h => absurd h (by show ¬ (4 : Int) ≤ 3; omega)), (fun h => absurd h (by show ¬ (6 : Int) ≤ 3; omega)), (fun h => absurd h (by show ¬ (7 : Int) ≤ 3; omega))⟩)⟩
  · rw [hstep]
    refine ⟨_, _, _, by show hubO m.room (wd m.words 0) (wd m.words 0 == x.b - 1) (x.b - 1) m.moves = hubO m.room (wd (m.words.set 1 (x.b - 1)) 0) (wd m.words 0 == x.b - 1) (x.b - 1) m.moves; rw [f0], fun h => absurd h (by show ¬ m.moves < 0; omega), fun _ => ⟨rfl, rfl⟩, ?_⟩
    exact FlagOK.fresh (m' := { ((m.dstore t 1 (x.b - 1)).point x c m.moves).setTh t { x with line := 3 } with down := m.moves, last := x.b - 1 }) hi hx hc ho (x' := { x with line := 3 }) (c' := { c with point := m.moves }) rfl rfl rfl rfl f0

set_option maxHeartbeats 1000000 in
theorem tk_3 (W : World) {m : DM} (hi : m.Inv) (_hmv : m.moves < 65536) {t : Nat} {x : Th} {c : ACall} {bt bh : Nat} {nx : Value} {t' v' : Int} {got' : Bool} {ready : Bool} {hl : Bool} {rank at_ : Int} (hx : m.all[t]? = some x) (_hb : 0 ≤ x.call) (hc : m.calls[x.call.toNat]? = some c) (ho : c.op = 91)
    (hline : x.line = 3) (hr0 : ready = false → x.line = 1) (hr1 : ready = true → nx = mval (takeNext x.line) bt) (h0 : ¬ x.b - 1 < wd m.words 0)
    (hd0 : m.down < 0 → hl = false) (hd1 : 0 ≤ m.down → rank = m.last ∧ at_ = m.down) (hf : FlagOK m hl) :
    StepOut W m t x c bt bh (tkO 121 bh nx (x.b - 1) t' v' [.bool got']) (hubO m.room (wd m.words 0) hl rank at_) ready := by
  have hl3 := hi.lens
  have htop := hi.top
  have hbot := hi.bot
  have hm0 := hi.mv
  have hlog : m.trace.length < 1048576 := by have := hi.ntrace; omega
  have hstep : m.step t = (m.dload t 0).setTh t { x with t := wd m.words 0, line := 5 } := by
    rw [step_eq hx hc]
    unfold DM.take
    simp only [ho, hline, h0, if_true, if_false, Int.reduceEq]
  have hn : takeNext x.line = 166 := by unfold takeNext; rw [hline]; rfl
  have ht : tyOf c.op = 119 := by unfold tyOf; rw [ho]; rfl
  refine ⟨(tkO 121 bh (mval 166 bt) (x.b - 1) t' v' [.bool got']), (tkO 121 bh (mval 167 bt) (x.b - 1) (wd m.words 0) v' [.bool got']), (hubO m.room (wd m.words 0) hl rank at_), none, none, false, { x with t := wd m.words 0, line := 5 }, c, ?_, ?_, ?_, ?_, ?_, ?_, ?_, ?_, ?_⟩
  · rw [ht, hstep]
    refine does_of W _ bt bh t m.moves m.words m.words m.trace (m.trace ++ [⟨m.moves, t, 1, 0, 0, 0, un (wd m.words 0)⟩]) (tkO 121 bh nx (x.b - 1) t' v' [.bool got']) (tkO 121 bh (mval 166 bt) (x.b - 1) t' v' [.bool got']) (tkO 121 bh (mval 167 bt) (x.b - 1) (wd m.words 0) v' [.bool got']) (hubO m.room (wd m.words 0) hl rank at_) (hubO m.room (wd m.words 0) hl rank at_) none none false ready 163 (fun hr => by rw [hr1 hr, hn]) (fun w => by kernel_rfl) (fun w => by kernel_rfl) (fun args w => by kernel_rfl) (fun hr => absurd (hr0 hr) (by omega)) ?_
    intro q w S F cs ss e1 e2 e3 e4 hE h
    subst e1; subst e2
    have key := callstep W w q m.words _ m.trace _ _ _ _ _ _ _ _ _ cs ss _ _ S F 166 false (fun args w => by kernel_rfl) hE h (take_look W w q m.words m.trace m.room (wd m.words 0) rank at_ hl cs ss S F _ (x.b - 1) t' v' got' (by omega) (hi.w64 0) hlog h0 hE h)
    rw [e3, e4] at key
    exact key
  · rw [hstep]; rfl
  · rw [hstep]; exact (self_set hc).symm
  · intro s; rfl
  · rw [hstep]; rfl
  · rw [hstep]; rfl
  · intro h; cases h
  · intro _; exact ⟨rfl, rfl, .inr (.inl ⟨ho, _, _, _, _, _, rfl, (fun h => by cases h), fun _ => rfl, (fun _ => rfl), (fun _ => rfl), (fun h => absurd h (by show ¬ (6 : Int) ≤ 5; omega)), (fun h => absurd h (by show ¬ (7 : Int) ≤ 5; omega))⟩)⟩
  · rw [hstep]
    refine ⟨hl, rank, at_, rfl, hd0, hd1, ?_⟩
    exact hf.kept (m' := _) hx hc (x' := { x with t := wd m.words 0, line := 5 }) (c' := c) rfl (self_set hc).symm rfl rfl rfl (by show wd m.words 0 ≤ wd m.words 0; omega) (fun _ _ _ => ⟨rfl, fun e => absurd e (by omega)⟩)

set_option maxHeartbeats 1000000 in
theorem tk_none (W : World) {m : DM} (hi : m.Inv) (_hmv : m.moves < 65536) {t : Nat} {x : Th} {c : ACall} {bt bh : Nat} {nx : Value} {t' v' : Int} {got' : Bool} {ready : Bool} {hl : Bool} {rank at_ : Int} (hx : m.all[t]? = some x) (_hb : 0 ≤ x.call) (hc : m.calls[x.call.toNat]? = some c) (ho : c.op = 91)
    (hline : x.line = 3) (hr0 : ready = false → x.line = 1) (hr1 : ready = true → nx = mval (takeNext x.line) bt) (h0 : x.b - 1 < wd m.words 0)
    (hd0 : m.down < 0 → hl = false) (hd1 : 0 ≤ m.down → rank = m.last ∧ at_ = m.down) (hf : FlagOK m hl) :
    StepOut W m t x c bt bh (tkO 121 bh nx (x.b - 1) t' v' [.bool got']) (hubO m.room (wd m.words 0) hl rank at_) ready := by
  have hl3 := hi.lens
  have htop := hi.top
  have hbot := hi.bot
  have hm0 := hi.mv
  have hlog : m.trace.length < 1048576 := by have := hi.ntrace; omega
  have hstep : m.step t = ((m.dload t 0).point x c m.moves).setTh t { x with t := wd m.words 0, line := 4 } := by
    rw [step_eq hx hc]
    unfold DM.take
    simp only [ho, hline, h0, if_true, if_false, Int.reduceEq]
  have hn : takeNext x.line = 166 := by unfold takeNext; rw [hline]; rfl
  have ht : tyOf c.op = 119 := by unfold tyOf; rw [ho]; rfl
  refine ⟨(tkO 121 bh (mval 166 bt) (x.b - 1) t' v' [.bool got']), (tkO 121 bh (mval 168 bt) (x.b - 1) (wd m.words 0) v' [.bool got']), (hubO m.room (wd m.words 0) hl rank at_), (some m.moves), none, false, { x with t := wd m.words 0, line := 4 }, { c with point := m.moves }, ?_, ?_, ?_, ?_, ?_, ?_, ?_, ?_, ?_⟩
  · rw [ht, hstep]
    refine does_of W _ bt bh t m.moves m.words m.words m.trace (m.trace ++ [⟨m.moves, t, 1, 0, 0, 0, un (wd m.words 0)⟩]) (tkO 121 bh nx (x.b - 1) t' v' [.bool got']) (tkO 121 bh (mval 166 bt) (x.b - 1) t' v' [.bool got']) (tkO 121 bh (mval 168 bt) (x.b - 1) (wd m.words 0) v' [.bool got']) (hubO m.room (wd m.words 0) hl rank at_) (hubO m.room (wd m.words 0) hl rank at_) (some m.moves) none false ready 163 (fun hr => by rw [hr1 hr, hn]) (fun w => by kernel_rfl) (fun w => by kernel_rfl) (fun args w => by kernel_rfl) (fun hr => absurd (hr0 hr) (by omega)) ?_
    intro q w S F cs ss e1 e2 e3 e4 hE h
    subst e1; subst e2
    have key := callstep W w q m.words _ m.trace _ _ _ _ _ _ _ _ _ cs ss _ _ S F 166 false (fun args w => by kernel_rfl) hE h (take_none W w q m.words m.trace m.room (wd m.words 0) rank at_ hl cs ss S F _ (x.b - 1) t' v' got' (by omega) (hi.w64 0) hlog h0 hE h)
    rw [e3, e4] at key
    exact key
  · rw [hstep]; rfl
  · rw [hstep]; rfl
  · intro s; rfl
  · rw [hstep]; rfl
  · rw [hstep]; rfl
  · intro h; cases h
  · intro _; exact ⟨rfl, rfl, .inr (.inl ⟨ho, _, _, _, _, _, rfl, (fun h => by cases h), fun _ => rfl, (fun _ => rfl), (fun _ => rfl), (fun h => absurd h (by show ¬ (6 : Int) ≤ 4; omega)), (fun h => absurd h (by show ¬ (7 : Int) ≤ 4; omega))⟩)⟩
  · rw [hstep]
    refine ⟨hl, rank, at_, rfl, hd0, hd1, ?_⟩
    exact hf.kept (m' := _) hx hc (x' := { x with t := wd m.words 0, line := 4 }) (c' := { c with point := m.moves }) rfl rfl rfl rfl rfl (by show wd m.words 0 ≤ wd m.words 0; omega) (fun _ _ _ => ⟨rfl, fun e => absurd e (by omega)⟩)

set_option maxHeartbeats 1000000 in
theorem tk_4 (W : World) {m : DM} (hi : m.Inv) (_hmv : m.moves < 65536) {t : Nat} {x : Th} {c : ACall} {bt bh : Nat} {nx : Value} {v' : Int} {got' : Bool} {ready : Bool} {hl : Bool} {rank at_ : Int} (hx : m.all[t]? = some x) (_hb : 0 ≤ x.call) (hc : m.calls[x.call.toNat]? = some c) (ho : c.op = 91)
    (hline : x.line = 4) (hr0 : ready = false → x.line = 1) (hr1 : ready = true → nx = mval (takeNext x.line) bt)
    (_hd0 : m.down < 0 → hl = false) (_hd1 : 0 ≤ m.down → rank = m.last ∧ at_ = m.down) (_hf : FlagOK m hl) :
    StepOut W m t x c bt bh (tkO 121 bh nx (x.b - 1) x.t v' [.bool got']) (hubO m.room (wd m.words 0) hl rank at_) ready := by
  have hl3 := hi.lens
  have htop := hi.top
  have hbot := hi.bot
  have hm0 := hi.mv
  have hlog : m.trace.length < 1048576 := by have := hi.ntrace; omega
  have f0 : wd (m.words.set 1 (x.t)) 0 = wd m.words 0 := by rw [wd_set, if_neg (by omega)]
  have hstep : m.step t = { (m.dstore t 1 x.t).fin t x c 3 0 with down := -1 } := by
    rw [step_eq hx hc]
    unfold DM.take
    simp only [ho, hline, if_true, if_false, Int.reduceEq]
  have hn : takeNext x.line = 168 := by unfold takeNext; rw [hline]; rfl
  have ht : tyOf c.op = 119 := by unfold tyOf; rw [ho]; rfl
  refine ⟨(tkO 121 bh (mval 168 bt) (x.b - 1) x.t v' [.bool got']), (tkO 121 bh (mval 168 bt) (x.b - 1) x.t v' [.bool got']), (hubO m.room (wd m.words 0) false rank at_), none, (some (3, 0)), true, { x with call := -1 }, { c with stop := m.moves, ak := 3, av := 0 }, ?_, ?_, ?_, ?_, ?_, ?_, ?_, ?_, ?_⟩
  · rw [ht, hstep]
    refine does_of W _ bt bh t m.moves m.words (m.words.set 1 x.t) m.trace (m.trace ++ [⟨m.moves, t, 2, 1, 0, un x.t, 0⟩]) (tkO 121 bh nx (x.b - 1) x.t v' [.bool got']) (tkO 121 bh (mval 168 bt) (x.b - 1) x.t v' [.bool got']) (tkO 121 bh (mval 168 bt) (x.b - 1) x.t v' [.bool got']) (hubO m.room (wd m.words 0) hl rank at_) (hubO m.room (wd m.words 0) false rank at_) none (some (3, 0)) true ready 163 (fun hr => by rw [hr1 hr, hn]) (fun w => by kernel_rfl) (fun w => by kernel_rfl) (fun args w => by kernel_rfl) (fun hr => absurd (hr0 hr) (by omega)) ?_
    intro q w S F cs ss e1 e2 e3 e4 hE h
    subst e1; subst e2
    have key := callstep W w q m.words _ m.trace _ _ _ _ _ _ _ _ _ cs ss _ _ S F 168 true (fun args w => by kernel_rfl) hE h (take_reset W w q m.words m.trace m.room (wd m.words 0) rank at_ hl cs ss S F _ (x.b - 1) x.t v' got' (by omega) hlog hE h)
    rw [e3, e4] at key
    exact key
  · rw [hstep]; rfl
  · rw [hstep]; rfl
  · intro s; rfl
  · rw [hstep]; rfl
  · rw [hstep]; rfl
  · intro _; show (-1 : Int) < 0; omega
  · intro h; cases h
  · rw [hstep]
    exact ⟨false, rank, at_, by show hubO m.room (wd m.words 0) false rank at_ = hubO m.room (wd (m.words.set 1 (x.t)) 0) false rank at_; rw [f0], fun _ => rfl, (fun h => absurd h (by show ¬ (0 : Int) ≤ -1; omega)), (fun h => absurd h (by show ¬ (0 : Int) ≤ -1; omega))⟩

set_option maxHeartbeats 1000000 in
theorem tk_more (W : World) {m : DM} (hi : m.Inv) (_hmv : m.moves < 65536) {t : Nat} {x : Th} {c : ACall} {bt bh : Nat} {nx : Value} {v' : Int} {got' : Bool} {ready : Bool} {hl : Bool} {rank at_ : Int} (hx : m.all[t]? = some x) (_hb : 0 ≤ x.call) (hc : m.calls[x.call.toNat]? = some c) (ho : c.op = 91)
    (hline : x.line = 5) (hr0 : ready = false → x.line = 1) (hr1 : ready = true → nx = mval (takeNext x.line) bt) (h0 : x.t < x.b - 1) (_h1 : 0 ≤ x.b - 1 ∧ x.b ≤ 65537)
    (_hd0 : m.down < 0 → hl = false) (_hd1 : 0 ≤ m.down → rank = m.last ∧ at_ = m.down) (_hf : FlagOK m hl) :
    StepOut W m t x c bt bh (tkO 121 bh nx (x.b - 1) x.t v' [.bool got']) (hubO m.room (wd m.words 0) hl rank at_) ready := by
  have hl3 := hi.lens
  have htop := hi.top
  have hbot := hi.bot
  have hm0 := hi.mv
  have hlog : m.trace.length < 1048576 := by have := hi.ntrace; omega
  have hstep : m.step t = { (m.dload t (2 + (x.b - 1) % m.room)).fin t { x with v := (wd m.words (2 + (x.b - 1) % m.room).toNat) } c 2 (wd m.words (2 + (x.b - 1) % m.room).toNat) with down := -1 } := by
    rw [step_eq hx hc]
    unfold DM.take
    simp only [ho, hline, h0, if_true, if_false, Int.reduceEq]
  have hn : takeNext x.line = 167 := by unfold takeNext; rw [hline]; rfl
  have ht : tyOf c.op = 119 := by unfold tyOf; rw [ho]; rfl
  refine ⟨(tkO 121 bh (mval 167 bt) (x.b - 1) x.t v' [.bool got']), (tkO 121 bh (mval 167 bt) (x.b - 1) x.t (wd m.words (2 + (x.b - 1) % m.room).toNat) [.bool got']), (hubO m.room (wd m.words 0) false rank at_), none, (some (2, (wd m.words (2 + (x.b - 1) % m.room).toNat))), true, { x with v := (wd m.words (2 + (x.b - 1) % m.room).toNat), call := -1 }, { c with stop := m.moves, ak := 2, av := (wd m.words (2 + (x.b - 1) % m.room).toNat) }, ?_, ?_, ?_, ?_, ?_, ?_, ?_, ?_, ?_⟩
  · rw [ht, hstep]
    refine does_of W _ bt bh t m.moves m.words m.words m.trace (m.trace ++ [⟨m.moves, t, 1, 2 + (x.b - 1) % m.room, 0, 0, un (wd m.words (2 + (x.b - 1) % m.room).toNat)⟩]) (tkO 121 bh nx (x.b - 1) x.t v' [.bool got']) (tkO 121 bh (mval 167 bt) (x.b - 1) x.t v' [.bool got']) (tkO 121 bh (mval 167 bt) (x.b - 1) x.t (wd m.words (2 + (x.b - 1) % m.room).toNat) [.bool got']) (hubO m.room (wd m.words 0) hl rank at_) (hubO m.room (wd m.words 0) false rank at_) none (some (2, (wd m.words (2 + (x.b - 1) % m.room).toNat))) true ready 163 (fun hr => by rw [hr1 hr, hn]) (fun w => by kernel_rfl) (fun w => by kernel_rfl) (fun args w => by kernel_rfl) (fun hr => absurd (hr0 hr) (by omega)) ?_
    intro q w S F cs ss e1 e2 e3 e4 hE h
    subst e1; subst e2
    have key := callstep W w q m.words _ m.trace _ _ _ _ _ _ _ _ _ cs ss _ _ S F 167 true (fun args w => by kernel_rfl) hE h (take_more W w q m.words m.trace m.room (wd m.words 0) rank at_ hl cs ss S F _ (x.b - 1) x.t v' got' (by omega) (by omega) hi.room.1 hi.room.2 hi.len hlog (hi.w64 _) h0 hE h)
    rw [e3, e4] at key
    exact key
  · rw [hstep]; rfl
  · rw [hstep]; rfl
  · intro s; rfl
  · rw [hstep]; rfl
  · rw [hstep]; rfl
  · intro _; show (-1 : Int) < 0; omega
  · intro h; cases h
  · rw [hstep]
    exact ⟨false, rank, at_, rfl, fun _ => rfl, (fun h => absurd h (by show ¬ (0 : Int) ≤ -1; omega)), (fun h => absurd h (by show ¬ (0 : Int) ≤ -1; omega))⟩

set_option maxHeartbeats 1000000 in
theorem tk_5 (W : World) {m : DM} (hi : m.Inv) (_hmv : m.moves < 65536) {t : Nat} {x : Th} {c : ACall} {bt bh : Nat} {nx : Value} {v' : Int} {got' : Bool} {ready : Bool} {hl : Bool} {rank at_ : Int} (hx : m.all[t]? = some x) (_hb : 0 ≤ x.call) (hc : m.calls[x.call.toNat]? = some c) (ho : c.op = 91)
    (hline : x.line = 5) (hr0 : ready = false → x.line = 1) (hr1 : ready = true → nx = mval (takeNext x.line) bt) (h0 : ¬ x.t < x.b - 1) (_h1 : 0 ≤ x.b - 1 ∧ x.b ≤ 65537)
    (hd0 : m.down < 0 → hl = false) (hd1 : 0 ≤ m.down → rank = m.last ∧ at_ = m.down) (hf : FlagOK m hl) :
    StepOut W m t x c bt bh (tkO 121 bh nx (x.b - 1) x.t v' [.bool got']) (hubO m.room (wd m.words 0) hl rank at_) ready := by
  have hl3 := hi.lens
  have htop := hi.top
  have hbot := hi.bot
  have hm0 := hi.mv
  have hlog : m.trace.length < 1048576 := by have := hi.ntrace; omega
  have hstep : m.step t = (m.dload t (2 + (x.b - 1) % m.room)).setTh t { x with v := (wd m.words (2 + (x.b - 1) % m.room).toNat), line := 6 } := by
    rw [step_eq hx hc]
    unfold DM.take
    simp only [ho, hline, h0, if_true, if_false, Int.reduceEq]
  have hn : takeNext x.line = 167 := by unfold takeNext; rw [hline]; rfl
  have ht : tyOf c.op = 119 := by unfold tyOf; rw [ho]; rfl
  refine ⟨(tkO 121 bh (mval 167 bt) (x.b - 1) x.t v' [.bool got']), (tkO 121 bh (mval 169 bt) (x.b - 1) x.t (wd m.words (2 + (x.b - 1) % m.room).toNat) [.bool got']), (hubO m.room (wd m.words 0) hl rank at_), none, none, false, { x with v := (wd m.words (2 + (x.b - 1) % m.room).toNat), line := 6 }, c, ?_, ?_, ?_, ?_, ?_, ?_, ?_, ?_, ?_⟩
  · rw [ht, hstep]
    refine does_of W _ bt bh t m.moves m.words m.words m.trace (m.trace ++ [⟨m.moves, t, 1, 2 + (x.b - 1) % m.room, 0, 0, un (wd m.words (2 + (x.b - 1) % m.room).toNat)⟩]) (tkO 121 bh nx (x.b - 1) x.t v' [.bool got']) (tkO 121 bh (mval 167 bt) (x.b - 1) x.t v' [.bool got']) (tkO 121 bh (mval 169 bt) (x.b - 1) x.t (wd m.words (2 + (x.b - 1) % m.room).toNat) [.bool got']) (hubO m.room (wd m.words 0) hl rank at_) (hubO m.room (wd m.words 0) hl rank at_) none none false ready 163 (fun hr => by rw [hr1 hr, hn]) (fun w => by kernel_rfl) (fun w => by kernel_rfl) (fun args w => by kernel_rfl) (fun hr => absurd (hr0 hr) (by omega)) ?_
    intro q w S F cs ss e1 e2 e3 e4 hE h
    subst e1; subst e2
    have key := callstep W w q m.words _ m.trace _ _ _ _ _ _ _ _ _ cs ss _ _ S F 167 false (fun args w => by kernel_rfl) hE h (take_read W w q m.words m.trace m.room (wd m.words 0) rank at_ hl cs ss S F _ (x.b - 1) x.t v' got' (by omega) (by omega) hi.room.1 hi.room.2 hi.len hlog (hi.w64 _) h0 hE h)
    rw [e3, e4] at key
    exact key
  · rw [hstep]; rfl
  · rw [hstep]; exact (self_set hc).symm
  · intro s; rfl
  · rw [hstep]; rfl
  · rw [hstep]; rfl
  · intro h; cases h
  · intro _; exact ⟨rfl, rfl, .inr (.inl ⟨ho, _, _, _, _, _, rfl, (fun h => by cases h), fun _ => rfl, (fun _ => rfl), (fun _ => rfl), (fun _ => rfl), (fun h => absurd h (by show ¬ (7 : Int) ≤ 6; omega))⟩)⟩
  · rw [hstep]
    refine ⟨hl, rank, at_, rfl, hd0, hd1, ?_⟩
    exact hf.kept (m' := _) hx hc (x' := { x with v := (wd m.words (2 + (x.b - 1) % m.room).toNat), line := 6 }) (c' := c) rfl (self_set hc).symm rfl rfl rfl (by show wd m.words 0 ≤ wd m.words 0; omega) (fun _ _ _ => ⟨rfl, fun e => absurd e (by omega)⟩)

set_option maxHeartbeats 1000000 in
theorem tk_won (W : World) {m : DM} (hi : m.Inv) (_hmv : m.moves < 65536) {t : Nat} {x : Th} {c : ACall} {bt bh : Nat} {nx : Value}  {got' : Bool} {ready : Bool} {hl : Bool} {rank at_ : Int} (hx : m.all[t]? = some x) (_hb : 0 ≤ x.call) (hc : m.calls[x.call.toNat]? = some c) (ho : c.op = 91)
    (hline : x.line = 6) (hr0 : ready = false → x.line = 1) (hr1 : ready = true → nx = mval (takeNext x.line) bt) (h0 : wd m.words 0 = x.t) (_h1 : 0 ≤ x.t ∧ x.t ≤ wd m.words 0)
    (hd0 : m.down < 0 → hl = false) (hd1 : 0 ≤ m.down → rank = m.last ∧ at_ = m.down) (hf : FlagOK m hl) :
    StepOut W m t x c bt bh (tkO 121 bh nx (x.b - 1) x.t x.v [.bool got']) (hubO m.room (wd m.words 0) hl rank at_) ready := by
  have hl3 := hi.lens
  have htop := hi.top
  have hbot := hi.bot
  have hm0 := hi.mv
  have hlog : m.trace.length < 1048576 := by have := hi.ntrace; omega
  have f0 : wd (m.words.set 0 (x.t + 1)) 0 = x.t + 1 := by rw [wd_set, if_pos ⟨rfl, by omega⟩]
  have hstep : m.step t = ({ m with words := m.words.set 0 (x.t + 1), trace := (m.trace ++ [⟨m.moves, t, 3, 0, un x.t, un (x.t + 1), un (wd m.words 0)⟩]) } : DM).setTh t { x with line := 7 } := by
    rw [step_eq hx hc]
    unfold DM.take
    simp only [ho, hline, eq_true h0, if_true, if_false, Int.reduceEq]
    unfold DM.dswap; rw [swp_yes h0]
  have hn : takeNext x.line = 169 := by unfold takeNext; rw [hline]; rfl
  have ht : tyOf c.op = 119 := by unfold tyOf; rw [ho]; rfl
  refine ⟨(tkO 121 bh (mval 169 bt) (x.b - 1) x.t x.v [.bool got']), (tkO 121 bh (mval 171 bt) (x.b - 1) x.t x.v [.bool true]), (hubO m.room (x.t + 1) hl rank at_), none, none, false, { x with line := 7 }, c, ?_, ?_, ?_, ?_, ?_, ?_, ?_, ?_, ?_⟩
  · rw [ht, hstep]
    refine does_of W _ bt bh t m.moves m.words (m.words.set 0 (x.t + 1)) m.trace (m.trace ++ [⟨m.moves, t, 3, 0, un x.t, un (x.t + 1), un (wd m.words 0)⟩]) (tkO 121 bh nx (x.b - 1) x.t x.v [.bool got']) (tkO 121 bh (mval 169 bt) (x.b - 1) x.t x.v [.bool got']) (tkO 121 bh (mval 171 bt) (x.b - 1) x.t x.v [.bool true]) (hubO m.room (wd m.words 0) hl rank at_) (hubO m.room (x.t + 1) hl rank at_) none none false ready 163 (fun hr => by rw [hr1 hr, hn]) (fun w => by kernel_rfl) (fun w => by kernel_rfl) (fun args w => by kernel_rfl) (fun hr => absurd (hr0 hr) (by omega)) ?_
    intro q w S F cs ss e1 e2 e3 e4 hE h
    subst e1; subst e2
    have key := callstep W w q m.words _ m.trace _ _ _ _ _ _ _ _ _ cs ss _ _ S F 169 false (fun args w => by kernel_rfl) hE h (take_won W w q m.words m.trace m.room (wd m.words 0) rank at_ hl cs ss S F _ (x.b - 1) x.t x.v got' (by omega) hlog (by omega) (by omega) h0 hE h)
    rw [e3, e4] at key
    exact key
  · rw [hstep]; rfl
  · rw [hstep]; exact (self_set hc).symm
  · intro s; rfl
  · rw [hstep]; rfl
  · rw [hstep]; rfl
  · intro h; cases h
  · intro _; exact ⟨rfl, rfl, .inr (.inl ⟨ho, _, _, _, _, _, rfl, (fun h => by cases h), fun _ => rfl, (fun _ => rfl), (fun _ => rfl), (fun _ => rfl), (fun _ => by show true = decide ((7 : Int) = 7); decide)⟩)⟩
  · rw [hstep]
    refine ⟨hl, rank, at_, by show hubO m.room (x.t + 1) hl rank at_ = hubO m.room (wd (m.words.set 0 (x.t + 1)) 0) hl rank at_; rw [f0], hd0, hd1, ?_⟩
    exact hf.kept (m' := _) hx hc (x' := { x with line := 7 }) (c' := c) rfl (self_set hc).symm rfl rfl rfl (by show wd m.words 0 ≤ wd (m.words.set 0 (x.t + 1)) 0; rw [f0]; omega) (fun _ _ _ => ⟨rfl, fun e => absurd e (by omega)⟩)

set_option maxHeartbeats 1000000 in
theorem tk_lost (W : World) {m : DM} (hi : m.Inv) (_hmv : m.moves < 65536) {t : Nat} {x : Th} {c : ACall} {bt bh : Nat} {nx : Value}  {got' : Bool} {ready : Bool} {hl : Bool} {rank at_ : Int} (hx : m.all[t]? = some x) (_hb : 0 ≤ x.call) (hc : m.calls[x.call.toNat]? = some c) (ho : c.op = 91)
    (hline : x.line = 6) (hr0 : ready = false → x.line = 1) (hr1 : ready = true → nx = mval (takeNext x.line) bt) (h0 : ¬ wd m.words 0 = x.t) (_h1 : 0 ≤ x.t ∧ x.t ≤ wd m.words 0)
    (hd0 : m.down < 0 → hl = false) (hd1 : 0 ≤ m.down → rank = m.last ∧ at_ = m.down) (hf : FlagOK m hl) :
    StepOut W m t x c bt bh (tkO 121 bh nx (x.b - 1) x.t x.v [.bool got']) (hubO m.room (wd m.words 0) hl rank at_) ready := by
  have hl3 := hi.lens
  have htop := hi.top
  have hbot := hi.bot
  have hm0 := hi.mv
  have hlog : m.trace.length < 1048576 := by have := hi.ntrace; omega
  have hstep : m.step t = (({ m with trace := (m.trace ++ [⟨m.moves, t, 3, 0, un x.t, un (x.t + 1), un (wd m.words 0)⟩]) } : DM).point x c m.moves).setTh t { x with line := 8 } := by
    rw [step_eq hx hc]
    unfold DM.take
    simp only [ho, hline, eq_false h0, if_true, if_false, Int.reduceEq]
    unfold DM.dswap; rw [swp_no h0]
  have hn : takeNext x.line = 169 := by unfold takeNext; rw [hline]; rfl
  have ht : tyOf c.op = 119 := by unfold tyOf; rw [ho]; rfl
  refine ⟨(tkO 121 bh (mval 169 bt) (x.b - 1) x.t x.v [.bool got']), (tkO 121 bh (mval 171 bt) (x.b - 1) x.t x.v [.bool false]), (hubO m.room (wd m.words 0) hl rank at_), (some m.moves), none, false, { x with line := 8 }, { c with point := m.moves }, ?_, ?_, ?_, ?_, ?_, ?_, ?_, ?_, ?_⟩
  · rw [ht, hstep]
    refine does_of W _ bt bh t m.moves m.words m.words m.trace (m.trace ++ [⟨m.moves, t, 3, 0, un x.t, un (x.t + 1), un (wd m.words 0)⟩]) (tkO 121 bh nx (x.b - 1) x.t x.v [.bool got']) (tkO 121 bh (mval 169 bt) (x.b - 1) x.t x.v [.bool got']) (tkO 121 bh (mval 171 bt) (x.b - 1) x.t x.v [.bool false]) (hubO m.room (wd m.words 0) hl rank at_) (hubO m.room (wd m.words 0) hl rank at_) (some m.moves) none false ready 163 (fun hr => by rw [hr1 hr, hn]) (fun w => by kernel_rfl) (fun w => by kernel_rfl) (fun args w => by kernel_rfl) (fun hr => absurd (hr0 hr) (by omega)) ?_
    intro q w S F cs ss e1 e2 e3 e4 hE h
    subst e1; subst e2
    have key := callstep W w q m.words _ m.trace _ _ _ _ _ _ _ _ _ cs ss _ _ S F 169 false (fun args w => by kernel_rfl) hE h (take_lost W w q m.words m.trace m.room (wd m.words 0) rank at_ hl cs ss S F _ (x.b - 1) x.t x.v got' (by omega) hlog (by omega) (by omega) h0 hE h)
    rw [e3, e4] at key
    exact key
  · rw [hstep]; rfl
  · rw [hstep]; rfl
  · intro s; rfl
  · rw [hstep]; rfl
  · rw [hstep]; rfl
  · intro h; cases h
  · intro _; exact ⟨rfl, rfl, .inr (.inl ⟨ho, _, _, _, _, _, rfl, (fun h => by cases h), fun _ => rfl, (fun _ => rfl), (fun _ => rfl), (fun _ => rfl), (fun _ => by show false = decide ((8 : Int) = 7); decide)⟩)⟩
  · rw [hstep]
    refine ⟨hl, rank, at_, rfl, hd0, hd1, ?_⟩
    exact hf.kept (m' := _) hx hc (x' := { x with line := 8 }) (c' := { c with point := m.moves }) rfl rfl rfl rfl rfl (by show wd m.words 0 ≤ wd m.words 0; omega) (fun _ _ _ => ⟨rfl, fun e => absurd e (by omega)⟩)

set_option maxHeartbeats 1000000 in
theorem tk_7 (W : World) {m : DM} (hi : m.Inv) (_hmv : m.moves < 65536) {t : Nat} {x : Th} {c : ACall} {bt bh : Nat} {nx : Value}  {ready : Bool} {hl : Bool} {rank at_ : Int} (hx : m.all[t]? = some x) (_hb : 0 ≤ x.call) (hc : m.calls[x.call.toNat]? = some c) (ho : c.op = 91)
    (hline : x.line = 7) (hr0 : ready = false → x.line = 1) (hr1 : ready = true → nx = mval (takeNext x.line) bt) (_h0 : 0 ≤ x.t ∧ x.t ≤ wd m.words 0)
    (_hd0 : m.down < 0 → hl = false) (_hd1 : 0 ≤ m.down → rank = m.last ∧ at_ = m.down) (_hf : FlagOK m hl) :
    StepOut W m t x c bt bh (tkO 121 bh nx (x.b - 1) x.t x.v [.bool true]) (hubO m.room (wd m.words 0) hl rank at_) ready := by
  have hl3 := hi.lens
  have htop := hi.top
  have hbot := hi.bot
  have hm0 := hi.mv
  have hlog : m.trace.length < 1048576 := by have := hi.ntrace; omega
  have f0 : wd (m.words.set 1 (x.t + 1)) 0 = wd m.words 0 := by rw [wd_set, if_neg (by omega)]
  have hstep : m.step t = { (m.dstore t 1 (x.t + 1)).fin t x c 2 x.v with down := -1 } := by
    rw [step_eq hx hc]
    unfold DM.take
    simp only [ho, hline, if_true, if_false, Int.reduceEq]
  have hn : takeNext x.line = 171 := by unfold takeNext; rw [hline]; rfl
  have ht : tyOf c.op = 119 := by unfold tyOf; rw [ho]; rfl
  refine ⟨(tkO 121 bh (mval 171 bt) (x.b - 1) x.t x.v [.bool true]), (tkO 121 bh (mval 171 bt) (x.b - 1) x.t x.v [.bool true]), (hubO m.room (wd m.words 0) false rank at_), none, (some (2, x.v)), true, { x with call := -1 }, { c with stop := m.moves, ak := 2, av := x.v }, ?_, ?_, ?_, ?_, ?_, ?_, ?_, ?_, ?_⟩
  · rw [ht, hstep]
    refine does_of W _ bt bh t m.moves m.words (m.words.set 1 (x.t + 1)) m.trace (m.trace ++ [⟨m.moves, t, 2, 1, 0, un (x.t + 1), 0⟩]) (tkO 121 bh nx (x.b - 1) x.t x.v [.bool true]) (tkO 121 bh (mval 171 bt) (x.b - 1) x.t x.v [.bool true]) (tkO 121 bh (mval 171 bt) (x.b - 1) x.t x.v [.bool true]) (hubO m.room (wd m.words 0) hl rank at_) (hubO m.room (wd m.words 0) false rank at_) none (some (2, x.v)) true ready 163 (fun hr => by rw [hr1 hr, hn]) (fun w => by kernel_rfl) (fun w => by kernel_rfl) (fun args w => by kernel_rfl) (fun hr => absurd (hr0 hr) (by omega)) ?_
    intro q w S F cs ss e1 e2 e3 e4 hE h
    subst e1; subst e2
    have key := callstep W w q m.words _ m.trace _ _ _ _ _ _ _ _ _ cs ss _ _ S F 171 true (fun args w => by kernel_rfl) hE h (take_end_yes W w q m.words m.trace m.room (wd m.words 0) rank at_ hl cs ss S F _ (x.b - 1) x.t x.v (by omega) hlog (by omega) hE h)
    rw [e3, e4] at key
    exact key
  · rw [hstep]; rfl
  · rw [hstep]; rfl
  · intro s; rfl
  · rw [hstep]; rfl
  · rw [hstep]; rfl
  · intro _; show (-1 : Int) < 0; omega
  · intro h; cases h
  · rw [hstep]
    exact ⟨false, rank, at_, by show hubO m.room (wd m.words 0) false rank at_ = hubO m.room (wd (m.words.set 1 (x.t + 1)) 0) false rank at_; rw [f0], fun _ => rfl, (fun h => absurd h (by show ¬ (0 : Int) ≤ -1; omega)), (fun h => absurd h (by show ¬ (0 : Int) ≤ -1; omega))⟩

set_option maxHeartbeats 1000000 in
theorem tk_8 (W : World) {m : DM} (hi : m.Inv) (_hmv : m.moves < 65536) {t : Nat} {x : Th} {c : ACall} {bt bh : Nat} {nx : Value}  {ready : Bool} {hl : Bool} {rank at_ : Int} (hx : m.all[t]? = some x) (_hb : 0 ≤ x.call) (hc : m.calls[x.call.toNat]? = some c) (ho : c.op = 91)
    (hline : x.line = 8) (hr0 : ready = false → x.line = 1) (hr1 : ready = true → nx = mval (takeNext x.line) bt) (_h0 : 0 ≤ x.t ∧ x.t ≤ wd m.words 0)
    (_hd0 : m.down < 0 → hl = false) (_hd1 : 0 ≤ m.down → rank = m.last ∧ at_ = m.down) (_hf : FlagOK m hl) :
    StepOut W m t x c bt bh (tkO 121 bh nx (x.b - 1) x.t x.v [.bool false]) (hubO m.room (wd m.words 0) hl rank at_) ready := by
  have hl3 := hi.lens
  have htop := hi.top
  have hbot := hi.bot
  have hm0 := hi.mv
  have hlog : m.trace.length < 1048576 := by have := hi.ntrace; omega
  have f0 : wd (m.words.set 1 (x.t + 1)) 0 = wd m.words 0 := by rw [wd_set, if_neg (by omega)]
  have hstep : m.step t = { (m.dstore t 1 (x.t + 1)).fin t x c 3 0 with down := -1 } := by
    rw [step_eq hx hc]
    unfold DM.take
    simp only [ho, hline, if_true, if_false, Int.reduceEq]
  have hn : takeNext x.line = 171 := by unfold takeNext; rw [hline]; rfl
  have ht : tyOf c.op = 119 := by unfold tyOf; rw [ho]; rfl
  refine ⟨(tkO 121 bh (mval 171 bt) (x.b - 1) x.t x.v [.bool false]), (tkO 121 bh (mval 171 bt) (x.b - 1) x.t x.v [.bool false]), (hubO m.room (wd m.words 0) false rank at_), none, (some (3, 0)), true, { x with call := -1 }, { c with stop := m.moves, ak := 3, av := 0 }, ?_, ?_, ?_, ?_, ?_, ?_, ?_, ?_, ?_⟩
  · rw [ht, hstep]
    refine does_of W _ bt bh t m.moves m.words (m.words.set 1 (x.t + 1)) m.trace (m.trace ++ [⟨m.moves, t, 2, 1, 0, un (x.t + 1), 0⟩]) (tkO 121 bh nx (x.b - 1) x.t x.v [.bool false]) (tkO 121 bh (mval 171 bt) (x.b - 1) x.t x.v [.bool false]) (tkO 121 bh (mval 171 bt) (x.b - 1) x.t x.v [.bool false]) (hubO m.room (wd m.words 0) hl rank at_) (hubO m.room (wd m.words 0) false rank at_) none (some (3, 0)) true ready 163 (fun hr => by rw [hr1 hr, hn]) (fun w => by kernel_rfl) (fun w => by kernel_rfl) (fun args w => by kernel_rfl) (fun hr => absurd (hr0 hr) (by omega)) ?_
    intro q w S F cs ss e1 e2 e3 e4 hE h
    subst e1; subst e2
    have key := callstep W w q m.words _ m.trace _ _ _ _ _ _ _ _ _ cs ss _ _ S F 171 true (fun args w => by kernel_rfl) hE h (take_end_no W w q m.words m.trace m.room (wd m.words 0) rank at_ hl cs ss S F _ (x.b - 1) x.t x.v (by omega) hlog (by omega) hE h)
    rw [e3, e4] at key
    exact key
  · rw [hstep]; rfl
  · rw [hstep]; rfl
  · intro s; rfl
  · rw [hstep]; rfl
  · rw [hstep]; rfl
  · intro _; show (-1 : Int) < 0; omega
  · intro h; cases h
  · rw [hstep]
    exact ⟨false, rank, at_, by show hubO m.room (wd m.words 0) false rank at_ = hubO m.room (wd (m.words.set 1 (x.t + 1)) 0) false rank at_; rw [f0], fun _ => rfl, (fun h => absurd h (by show ¬ (0 : Int) ≤ -1; omega)), (fun h => absurd h (by show ¬ (0 : Int) ≤ -1; omega))⟩

end Go.Proofs.Ythifeaigdobonaa
