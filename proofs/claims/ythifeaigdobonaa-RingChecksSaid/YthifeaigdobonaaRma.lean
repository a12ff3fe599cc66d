/- The ring's machine as the document has it, in plain Lean: its state, its moves, what holds at every move's begin. The ring's turns, and that whoever is alone ends. Plain Lean. The ring: whoever is alone ends within eight steps. Plain Lean. -/
import Derived.Test.YthifeaigdobonaaDi
import Derived.Test.YthifeaigdobonaaOnp
namespace Go.Proofs.Ythifeaigdobonaa

structure RTh where
  call : Int
  st : Int
  n : Int
  got : Int

structure RM where
  cells : Int
  words : List Int
  all : List RTh
  calls : List ACall
  trace : List Acc
  moves : Int

/-- One step's effect: the words, the access, the thread, its call. -/
structure REff where
  words : List Int
  acc : Acc
  x : RTh
  c : ACall

namespace RM
def base (c : ACall) : Int := if c.op = 101 then 1 else 0
def addr (cells : Int) (x : RTh) : Int := 2 + 2 * (x.n % cells)
def lda (m : RM) (t : Nat) (a : Int) : Acc := ⟨m.moves, t, 1, a, 0, 0, un (wd m.words a.toNat)⟩
def sta (m : RM) (t : Nat) (a v : Int) : Acc := ⟨m.moves, t, 2, a, 0, un v, 0⟩
def swa (m : RM) (t : Nat) (a old : Int) : Acc := ⟨m.moves, t, 3, a, un old, un (old + 1), un (wd m.words a.toNat)⟩

def eff (m : RM) (t : Nat) (x : RTh) (c : ACall) : REff :=
  if x.st = 0 then ⟨m.words, m.lda t (base c), { x with st := 1, n := wd m.words (base c).toNat }, c⟩
  else if x.st = 1 then
    if wd m.words (addr m.cells x).toNat = x.n + base c then ⟨m.words, m.lda t (addr m.cells x), { x with st := 2 }, c⟩
    else if x.n + base c < wd m.words (addr m.cells x).toNat then ⟨m.words, m.lda t (addr m.cells x), { x with st := 0 }, c⟩
    else ⟨m.words, m.lda t (addr m.cells x), { x with call := -1 }, { c with point := m.moves, stop := m.moves, ak := if c.op = 101 then 3 else 4, av := 0 }⟩
  else if x.st = 2 then
    if wd m.words (base c).toNat = x.n then ⟨m.words.set (base c).toNat (x.n + 1), m.swa t (base c) x.n, { x with st := 3 }, { c with point := m.moves }⟩
    else ⟨m.words, m.swa t (base c) x.n, { x with st := 0 }, c⟩
  else if x.st = 3 then
    if c.op = 101 then ⟨m.words, m.lda t (addr m.cells x + 1), { x with st := 4, got := wd m.words (addr m.cells x + 1).toNat }, c⟩
    else ⟨m.words.set (addr m.cells x + 1).toNat c.arg, m.sta t (addr m.cells x + 1) c.arg, { x with st := 4 }, c⟩
  else
    if c.op = 101 then ⟨m.words.set (addr m.cells x).toNat (x.n + m.cells), m.sta t (addr m.cells x) (x.n + m.cells), { x with call := -1 }, { c with stop := m.moves, ak := 2, av := x.got }⟩
    else ⟨m.words.set (addr m.cells x).toNat (x.n + 1), m.sta t (addr m.cells x) (x.n + 1), { x with call := -1 }, { c with stop := m.moves, ak := 1, av := 0 }⟩

def noTh : RTh := ⟨-1, 0, 0, 0⟩
def th (m : RM) (t : Nat) : RTh := m.all[t]?.getD noTh
def call (m : RM) (x : RTh) : ACall := m.calls[x.call.toNat]?.getD DM.noCall

def put (m : RM) (t : Nat) (i : Nat) (e : REff) : RM := { m with words := e.words, trace := m.trace ++ [e.acc], all := m.all.set t e.x, calls := m.calls.set i e.c }
def step (m : RM) (t : Nat) : RM := m.put t (m.th t).call.toNat (m.eff t (m.th t) (m.call (m.th t)))

def begins (m : RM) (t : Nat) (op arg data : Int) : RM :=
  { m with all := m.all.set t ⟨m.calls.length, 0, 0, 0⟩, calls := m.calls ++ [callNew t op arg data m.moves] }

def legal (op : Int) : Bool := decide (op = 100) || decide (op = 101)

/-- A move without the count of moves. -/
def move0 (m : RM) (v : DM.Mv) : RM × Bool :=
  if v.thread < 0 ∨ (m.all.length : Int) ≤ v.thread then (m, false) else
  if v.op = 0 then (if (m.th v.thread.toNat).call < 0 then (m, false) else (m.step v.thread.toNat, true)) else
  if 0 ≤ (m.th v.thread.toNat).call ∨ legal v.op = false then (m, false) else (m.begins v.thread.toNat v.op v.arg v.data, true)

def move (m : RM) (v : DM.Mv) : RM × Bool :=
  if 65536 ≤ m.moves then (m, false) else ({ (m.move0 v).1 with moves := m.moves + 1 }, (m.move0 v).2)

def turns (cells : Nat) : List Int := (List.range cells).flatMap fun (i : Nat) => [(i : Int), 0]
def init (threads cells : Nat) : RM := { cells := cells, words := 0 :: 0 :: turns cells, all := List.replicate threads noTh, calls := [], trace := [], moves := 0 }

/-- What holds of a thread on its way in a call. -/
def ThP (moves : Int) (x : RTh) (c : ACall) : Prop := (c.op = 100 ∨ c.op = 101) ∧ 0 ≤ x.st ∧ x.st ≤ 4 ∧ 0 ≤ x.n ∧ x.n ≤ moves ∧ I64 x.got

structure Inv (m : RM) : Prop where
  cells : 2 ≤ m.cells ∧ m.cells ≤ 64
  len : (m.words.length : Int) = 2 + 2 * m.cells
  nth : 0 < m.all.length ∧ m.all.length ≤ 16
  w64 : ∀ i, I64 (wd m.words i)
  mv : 0 ≤ m.moves ∧ m.moves ≤ 65536
  ncalls : (m.calls.length : Int) ≤ m.moves
  ntrace : (m.trace.length : Int) ≤ m.moves
  cnt : ∀ i, i < 2 → 0 ≤ wd m.words i ∧ wd m.words i ≤ m.moves
  args : ∀ c ∈ m.calls, I64 c.arg
  ths : ∀ (t : Nat) (x : RTh), m.all[t]? = some x → 0 ≤ x.call → ∃ c, m.calls[x.call.toNat]? = some c ∧ ThP m.moves x c

theorem base_lt (c : ACall) : (base c).toNat < 2 := by unfold base; split <;> decide
theorem base_01 (c : ACall) : 0 ≤ base c ∧ base c ≤ 1 := by unfold base; split <;> omega
theorem addr_in {cells : Int} (h : 2 ≤ cells) (x : RTh) : 2 ≤ addr cells x ∧ addr cells x + 1 < 2 + 2 * cells := by
  have := Int.emod_nonneg x.n (show cells ≠ 0 by omega)
  have := Int.emod_lt_of_pos x.n (show 0 < cells by omega)
  unfold addr; omega

theorem th_of {m : RM} {t : Nat} {x : RTh} (hx : m.all[t]? = some x) : m.th t = x := by simp [th, hx]
theorem call_of {m : RM} {x : RTh} {c : ACall} (hc : m.calls[x.call.toNat]? = some c) : m.call x = c := by simp [call, hc]

/-- What a step's effect is like. -/
theorem eff_ok {m : RM} (h : m.Inv) (t : Nat) {x : RTh} {c : ACall} (hc : m.calls[x.call.toNat]? = some c) (hp : ThP m.moves x c) :
    (m.eff t x c).words.length = m.words.length ∧ (∀ i, I64 (wd (m.eff t x c).words i)) ∧ (∀ i, i < 2 → wd m.words i ≤ wd (m.eff t x c).words i ∧ wd (m.eff t x c).words i ≤ m.moves + 1) ∧
      (m.eff t x c).c.op = c.op ∧ (m.eff t x c).c.arg = c.arg ∧ (0 ≤ (m.eff t x c).x.call → (m.eff t x c).x.call = x.call ∧ ThP (m.moves + 1) (m.eff t x c).x (m.eff t x c).c) := by
  obtain ⟨o, s0, s1, n0, n1, g⟩ := hp
  have hcn := h.cnt
  have hm0 := h.mv
  have hb := base_lt c
  have hb1 := base_01 c
  have hcl := h.cells
  obtain ⟨a0, a1⟩ := addr_in h.cells.1 x
  have hl := h.len
  have ha : I64 c.arg := h.args c (List.mem_of_getElem? hc)
  have sm : ∀ {z : Int}, 0 ≤ z → z ≤ 70000 → I64 z := fun h0 h1 => I64.small (by omega) (by omega)
  have keep : ∀ i, i < 2 → wd m.words i ≤ wd m.words i ∧ wd m.words i ≤ m.moves + 1 := fun i hi => by have := hcn i hi; omega
  have w' : ∀ (j : Nat) (v : Int), I64 v → ∀ i, I64 (wd (m.words.set j v) i) := fun j v hv i => by rw [DM.wd_set]; split <;> first | exact hv | exact h.w64 i
  have hi : ∀ (j : Nat) (v : Int), 2 ≤ j → ∀ i, i < 2 → wd m.words i ≤ wd (m.words.set j v) i ∧ wd (m.words.set j v) i ≤ m.moves + 1 := fun j v hj i hi => by
    rw [DM.wd_set, if_neg (by omega)]; exact keep i hi
  have hw := h.w64
  unfold eff
  split
  · refine ⟨rfl, hw, keep, rfl, rfl, fun _ => ⟨rfl, o, ?_, ?_, ?_, ?_, g⟩⟩ <;> simp only [] <;> first | omega | (have := hcn _ hb; omega)
  split
  · split
    · exact ⟨rfl, hw, keep, rfl, rfl, fun _ => ⟨rfl, o, by simp only []; omega, by simp only []; omega, n0, by simp only []; omega, g⟩⟩
    split
    · exact ⟨rfl, hw, keep, rfl, rfl, fun _ => ⟨rfl, o, by simp only []; omega, by simp only []; omega, n0, by simp only []; omega, g⟩⟩
    · exact ⟨rfl, hw, keep, rfl, rfl, fun e => absurd e (by simp only []; omega)⟩
  split
  · split
    · rename_i e
      refine ⟨by simp, w' _ _ (sm (by omega) (by omega)), fun i hi => ?_, rfl, rfl, fun _ => ⟨rfl, o, by simp only []; omega, by simp only []; omega, n0, by simp only []; omega, g⟩⟩
      rw [DM.wd_set]
      have := hcn i hi
      split
      · rename_i e2
        rw [e2.1] at e
        omega
      · omega
    · exact ⟨rfl, hw, keep, rfl, rfl, fun _ => ⟨rfl, o, by simp only []; omega, by simp only []; omega, n0, by simp only []; omega, g⟩⟩
  split
  · split
    · exact ⟨rfl, hw, keep, rfl, rfl, fun _ => ⟨rfl, o, by simp only []; omega, by simp only []; omega, n0, by simp only []; omega, hw _⟩⟩
    · exact ⟨by simp, w' _ _ ha, hi _ _ (by omega), rfl, rfl, fun _ => ⟨rfl, o, by simp only []; omega, by simp only []; omega, n0, by simp only []; omega, g⟩⟩
  · split
    · exact ⟨by simp, w' _ _ (sm (by omega) (by omega)), hi _ _ (by omega), rfl, rfl, fun e => absurd e (by simp only []; omega)⟩
    · exact ⟨by simp, w' _ _ (sm (by omega) (by omega)), hi _ _ (by omega), rfl, rfl, fun e => absurd e (by simp only []; omega)⟩

theorem ThP.up {a b : Int} (h : a ≤ b) {x : RTh} {c : ACall} (k : ThP a x c) : ThP b x c := ⟨k.1, k.2.1, k.2.2.1, k.2.2.2.1, by have := k.2.2.2.2.1; omega, k.2.2.2.2.2⟩
theorem ThP.op {a : Int} {x : RTh} {c d : ACall} (k : ThP a x c) (h : d.op = c.op) : ThP a x d := ⟨by rw [h]; exact k.1, k.2⟩

theorem Inv.stepped {m : RM} (h : m.Inv) (hmv : m.moves < 65536) {t : Nat} {x : RTh} (hx : m.all[t]? = some x) (hb : 0 ≤ x.call) : Inv { m.step t with moves := m.moves + 1 } := by
  obtain ⟨c, hc, hp⟩ := h.ths t x hx hb
  obtain ⟨e1, e2, e3, e4, e5, e6⟩ := eff_ok h t hc hp
  have hs : m.step t = m.put t x.call.toNat (m.eff t x c) := by unfold step; rw [th_of hx, call_of hc]
  rw [hs]
  generalize m.eff t x c = e at e1 e2 e3 e4 e5 e6
  have hlt : t < m.all.length := (List.getElem?_eq_some_iff.1 hx).1
  have hcl : x.call.toNat < m.calls.length := (List.getElem?_eq_some_iff.1 hc).1
  have hm0 := h.mv
  refine ⟨h.cells, ?_, by simpa [put] using h.nth, e2, ⟨by show 0 ≤ m.moves + 1; omega, by show m.moves + 1 ≤ 65536; omega⟩, ?_, ?_, fun i hi => ?_, ?_, ?_⟩
  · show (e.words.length : Int) = _; rw [e1]; exact h.len
  · have := h.ncalls; show ((m.calls.set _ _).length : Int) ≤ m.moves + 1; rw [List.length_set]; omega
  · have := h.ntrace; show ((m.trace ++ [e.acc]).length : Int) ≤ m.moves + 1; rw [List.length_append]; simp; omega
  · have := e3 i hi; have := h.cnt i hi
    show 0 ≤ wd e.words i ∧ wd e.words i ≤ m.moves + 1; omega
  · intro d hd
    rcases List.mem_or_eq_of_mem_set hd with hd | rfl
    · exact h.args d hd
    · rw [e5]; exact h.args c (List.mem_of_getElem? hc)
  · intro t2 x2 hx2 hb2
    by_cases q : t = t2
    · subst q
      have : x2 = e.x := by simp [put, hlt] at hx2; exact hx2.symm
      subst this
      obtain ⟨e7, e8⟩ := e6 hb2
      exact ⟨e.c, by show (m.calls.set x.call.toNat e.c)[e.x.call.toNat]? = _; rw [e7]; simp [hcl], e8⟩
    · have hx2' : m.all[t2]? = some x2 := by simpa [put, q] using hx2
      obtain ⟨d, hd, hp2⟩ := h.ths t2 x2 hx2' hb2
      by_cases q2 : x.call.toNat = x2.call.toNat
      · rw [← q2, hc] at hd
        injection hd with hd
        subst hd
        exact ⟨e.c, by show (m.calls.set x.call.toNat e.c)[x2.call.toNat]? = _; rw [← q2]; simp [hcl], (hp2.up (by show m.moves ≤ m.moves + 1; omega)).op e4⟩
      · exact ⟨d, by show (m.calls.set x.call.toNat e.c)[x2.call.toNat]? = _; rw [List.getElem?_set_ne q2]; exact hd, hp2.up (by show m.moves ≤ m.moves + 1; omega)⟩

theorem Inv.tick {m : RM} (h : m.Inv) (hmv : m.moves < 65536) : Inv { m with moves := m.moves + 1 } :=
  ⟨h.cells, h.len, h.nth, h.w64, ⟨by have := h.mv; show 0 ≤ m.moves + 1; omega, by show m.moves + 1 ≤ 65536; omega⟩, by have := h.ncalls; show (m.calls.length : Int) ≤ m.moves + 1; omega, by have := h.ntrace; show (m.trace.length : Int) ≤ m.moves + 1; omega,
    fun i hi => by have := h.cnt i hi; show 0 ≤ wd m.words i ∧ wd m.words i ≤ m.moves + 1; omega, h.args, fun t x hx hb => by
      obtain ⟨c, hc, hp⟩ := h.ths t x hx hb
      exact ⟨c, hc, hp.up (by show m.moves ≤ m.moves + 1; omega)⟩⟩

theorem Inv.begun {m : RM} (h : m.Inv) (hmv : m.moves < 65536) {t : Nat} {x : RTh} {op arg data : Int} (hx : m.all[t]? = some x) (harg : I64 arg) (hl : op = 100 ∨ op = 101) :
    Inv { m.begins t op arg data with moves := m.moves + 1 } := by
  have hlt : t < m.all.length := (List.getElem?_eq_some_iff.1 hx).1
  have hm0 := h.mv
  have old : ∀ (i : Nat) (d : ACall), m.calls[i]? = some d → (m.calls ++ [callNew t op arg data m.moves])[i]? = some d := fun i d hd => by
    rw [List.getElem?_append_left (List.getElem?_eq_some_iff.1 hd).1]; exact hd
  refine ⟨h.cells, h.len, by simpa [begins] using h.nth, h.w64, ⟨by show 0 ≤ m.moves + 1; omega, by show m.moves + 1 ≤ 65536; omega⟩, ?_, by have := h.ntrace; show (m.trace.length : Int) ≤ m.moves + 1; omega,
    fun i hi => by have := h.cnt i hi; show 0 ≤ wd m.words i ∧ wd m.words i ≤ m.moves + 1; omega, ?_, ?_⟩
  · have := h.ncalls; show ((m.calls ++ [_]).length : Int) ≤ m.moves + 1; rw [List.length_append]; simp; omega
  · intro c hc
    rcases List.mem_append.1 hc with hc | hc
    · exact h.args c hc
    · simp at hc; subst hc; exact harg
  · intro t2 x2 hx2 hb2
    by_cases e : t = t2
    · subst e
      have : x2 = ⟨m.calls.length, 0, 0, 0⟩ := by simp [begins, hlt] at hx2; exact hx2.symm
      subst this
      exact ⟨callNew t op arg data m.moves, by show (m.calls ++ [_])[((m.calls.length : Int)).toNat]? = _; simp, hl, Int.le_refl 0, by show (0 : Int) ≤ 4; omega, Int.le_refl 0, by show (0 : Int) ≤ m.moves + 1; omega, show I64 0 from I64.small (by decide) (by decide)⟩
    · have hx2' : m.all[t2]? = some x2 := by simpa [begins, e] using hx2
      obtain ⟨d, hd, hp⟩ := h.ths t2 x2 hx2' hb2
      exact ⟨d, old _ _ hd, hp.up (by show m.moves ≤ m.moves + 1; omega)⟩

theorem legal_iff {op : Int} : legal op = true ↔ op = 100 ∨ op = 101 := by unfold legal; simp

theorem Inv.moved {m : RM} (h : m.Inv) (v : DM.Mv) (harg : I64 v.arg) : Inv (m.move v).1 := by
  unfold move
  split
  · exact h
  · rename_i hm
    have hmv : m.moves < 65536 := by omega
    show Inv { (m.move0 v).1 with moves := m.moves + 1 }
    unfold move0
    split
    · exact h.tick hmv
    · rename_i hth
      obtain ⟨t, ht⟩ := Int.eq_ofNat_of_zero_le (show 0 ≤ v.thread by omega)
      have hlt : t < m.all.length := by omega
      have hx := List.getElem?_eq_getElem hlt
      have hT : v.thread.toNat = t := by omega
      have hth' : m.th v.thread.toNat = m.all[t] := by rw [hT]; exact th_of hx
      split
      · split
        · exact h.tick hmv
        · rename_i hc
          rw [hth'] at hc
          rw [hT]
          exact h.stepped hmv hx (by omega)
      · split
        · exact h.tick hmv
        · rename_i hc
          rw [not_or] at hc
          rw [hT]
          exact h.begun hmv hx harg (legal_iff.1 (by simpa using hc.2))

theorem turns_len (n : Nat) : (turns n).length = 2 * n := by
  unfold turns
  rw [List.length_flatMap]
  simp [List.map_const']
  omega

theorem turns_succ (n : Nat) : turns (n + 1) = turns n ++ [(n : Int), 0] := by
  unfold turns; rw [List.range_succ, List.flatMap_append]; simp

theorem turns_get : ∀ (n i : Nat), i < n → (turns n)[2 * i]? = some (i : Int) ∧ (turns n)[2 * i + 1]? = some 0
  | 0, _, h => absurd h (Nat.not_lt_zero _)
  | n + 1, i, h => by
    rw [turns_succ]
    by_cases e : i < n
    · have := turns_get n i e
      rw [List.getElem?_append_left (by rw [turns_len]; omega), List.getElem?_append_left (by rw [turns_len]; omega)]
      exact this
    · obtain rfl : i = n := by omega
      rw [List.getElem?_append_right (by rw [turns_len]; omega), List.getElem?_append_right (by rw [turns_len]; omega), turns_len]
      simp

theorem turns_small (n : Nat) : ∀ v ∈ turns n, 0 ≤ v ∧ v ≤ n := by
  intro v hv
  unfold turns at hv
  rw [List.mem_flatMap] at hv
  obtain ⟨i, hi, hv⟩ := hv
  rw [List.mem_range] at hi
  simp at hv
  omega

theorem Inv.start (threads cells : Nat) (h1 : 1 ≤ threads) (h2 : threads ≤ 16) (h3 : 2 ≤ cells) (h4 : cells ≤ 64) : Inv (init threads cells) := by
  have wz : ∀ i, 0 ≤ wd (0 :: 0 :: turns cells) i ∧ wd (0 :: 0 :: turns cells) i ≤ cells := fun i => by
    unfold wd
    rcases h : (0 :: 0 :: turns cells)[i]? with _ | v
    · simp
    · have hv := List.mem_of_getElem? h
      simp only [List.mem_cons] at hv
      have := turns_small cells v
      simp only [Option.getD_some]
      rcases hv with hv | hv | hv
      · omega
      · omega
      · exact this hv
  refine ⟨⟨by show (2 : Int) ≤ cells; omega, by show (cells : Int) ≤ 64; omega⟩, ?_, by simp [init]; omega, fun i => I64.small (by have := wz i; show _ ≤ wd (0 :: 0 :: turns cells) i; omega) (by have := wz i; show wd (0 :: 0 :: turns cells) i ≤ _; omega),
    ⟨by show (0 : Int) ≤ 0; omega, by show (0 : Int) ≤ 65536; omega⟩, by simp [init], by simp [init], fun i hi => ?_, by simp [init], ?_⟩
  · show (((0 :: 0 :: turns cells).length : Nat) : Int) = 2 + 2 * (cells : Int)
    simp [turns_len]; omega
  · show 0 ≤ wd (0 :: 0 :: turns cells) i ∧ wd (0 :: 0 :: turns cells) i ≤ 0
    match i, hi with
    | 0, _ => exact ⟨Int.le_refl _, Int.le_refl _⟩
    | 1, _ => exact ⟨Int.le_refl _, Int.le_refl _⟩
  · intro t x hx hb
    have : x = noTh := List.eq_of_mem_replicate (List.mem_of_getElem? hx)
    subst this
    exact absurd hb (by show ¬ (0 : Int) ≤ -1; omega)

def runs (m : RM) (l : List DM.Mv) : RM := l.foldl (fun m v => (m.move v).1) m
theorem runs_snoc (m : RM) (l : List DM.Mv) (v : DM.Mv) : m.runs (l ++ [v]) = ((m.runs l).move v).1 := by simp [runs]
theorem runs_append (m : RM) (l k : List DM.Mv) : m.runs (l ++ k) = (m.runs l).runs k := by simp [runs]
theorem runs_take (m : RM) (l : List DM.Mv) {k : Nat} {v : DM.Mv} (h : l[k]? = some v) : m.runs (l.take (k + 1)) = ((m.runs (l.take k)).move v).1 := by
  rw [← runs_snoc]
  obtain ⟨hlt, rfl⟩ := List.getElem?_eq_some_iff.1 h
  rw [List.take_append_getElem hlt]
theorem Inv.runs {m : RM} (h : m.Inv) : ∀ (l : List DM.Mv), (∀ v ∈ l, I64 v.arg) → Inv (m.runs l) := by
  intro l
  induction l generalizing m with
  | nil => intro _; exact h
  | cons v l ih => intro ha; exact ih (h.moved v (ha v (by simp))) fun u hu => ha u (by simp [hu])

end RM
end Go.Proofs.Ythifeaigdobonaa

namespace Go.Proofs.Ythifeaigdobonaa
namespace RM

def RBusy (m : RM) (t : Nat) (x : RTh) (c : ACall) : Prop := m.all[t]? = some x ∧ 0 ≤ x.call ∧ m.calls[x.call.toNat]? = some c

def ThD (words : List Int) (cells : Int) (x : RTh) (c : ACall) : Prop :=
  (x.st = 1 → x.n ≤ wd words (base c).toNat) ∧ (x.st = 2 → x.n ≤ wd words (base c).toNat ∧ (x.n = wd words (base c).toNat → wd words (addr cells x).toNat = x.n + base c)) ∧
    (3 ≤ x.st → x.n < wd words (base c).toNat ∧ wd words (addr cells x).toNat = x.n + base c)

/-- The turn of a cell: the ticket j that it waits for, or is full for. -/
def CellOK (words : List Int) (cells i : Int) : Prop := ∃ j : Int, j % cells = i ∧
  ((wd words (2 + 2 * i).toNat = j ∧ j - cells < wd words 1 ∧ wd words 1 ≤ j ∧ j - cells < wd words 0 ∧ wd words 0 ≤ j + cells) ∨
    (wd words (2 + 2 * i).toNat = j + 1 ∧ j < wd words 0 ∧ wd words 0 ≤ j + cells ∧ j - cells < wd words 1 ∧ wd words 1 ≤ j + cells))

structure Deep (m : RM) : Prop where
  inv : Inv m
  uniq : ∀ (t1 t2 : Nat) (x1 x2 : RTh), m.all[t1]? = some x1 → m.all[t2]? = some x2 → 0 ≤ x1.call → x1.call = x2.call → t1 = t2
  ths : ∀ (t : Nat) (x : RTh) (c : ACall), m.RBusy t x c → ThD m.words m.cells x c
  sole : ∀ (t1 t2 : Nat) (x1 x2 : RTh) (c1 c2 : ACall), m.RBusy t1 x1 c1 → m.RBusy t2 x2 c2 → c1.op = c2.op → 3 ≤ x1.st → 3 ≤ x2.st → x1.n = x2.n → t1 = t2
  cellsOK : ∀ i, 0 ≤ i → i < m.cells → CellOK m.words m.cells i

theorem same_mod {c i b : Int} (h : i % c = b % c) (h1 : b - c < i) (h2 : i < b + c) : i = b := by
  rcases Int.lt_trichotomy i b with q | q | q
  · exact absurd h (DM.emod_ne q (by omega))
  · exact q
  · exact absurd h.symm (DM.emod_ne q (by omega))

theorem Deep.step {m : RM} (h : m.Deep) {t : Nat} {x : RTh} {c : ACall} {e : REff} (hB : m.RBusy t x c) (hinv : Inv { m.put t x.call.toNat e with moves := m.moves + 1 }) (hop : e.c.op = c.op)
    (hgo : 0 ≤ e.x.call → e.x.call = x.call ∧ ThD e.words m.cells e.x c)
    (hoth : ∀ t2 y d, t2 ≠ t → m.RBusy t2 y d → ThD e.words m.cells y d)
    (hsole : 0 ≤ e.x.call → 3 ≤ e.x.st → ∀ t2 y d, t2 ≠ t → m.RBusy t2 y d → d.op = c.op → 3 ≤ y.st → y.n ≠ e.x.n)
    (hcells : ∀ i, 0 ≤ i → i < m.cells → CellOK e.words m.cells i) : Deep { m.put t x.call.toNat e with moves := m.moves + 1 } := by
  obtain ⟨hx, hb, hc⟩ := hB
  have hlt : t < m.all.length := (List.getElem?_eq_some_iff.1 hx).1
  have hcl : x.call.toNat < m.calls.length := (List.getElem?_eq_some_iff.1 hc).1
  have self : ∀ y, (m.all.set t e.x)[t]? = some y → y = e.x := fun y hy => by simp [hlt] at hy; exact hy.symm
  have other : ∀ t2 y d, t2 ≠ t → RBusy { m.put t x.call.toNat e with moves := m.moves + 1 } t2 y d → m.RBusy t2 y d := by
    rintro t2 y d q ⟨hy, hyb, hd⟩
    have hy : (m.all.set t e.x)[t2]? = some y := hy
    have hd : (m.calls.set x.call.toNat e.c)[y.call.toNat]? = some d := hd
    rw [List.getElem?_set_ne (Ne.symm q)] at hy
    have hne : x.call.toNat ≠ y.call.toNat := fun e => q (h.uniq t2 t y x hy hx hyb (by omega))
    rw [List.getElem?_set_ne hne] at hd
    exact ⟨hy, hyb, hd⟩
  have mine : ∀ y d, RBusy { m.put t x.call.toNat e with moves := m.moves + 1 } t y d → y = e.x ∧ d = e.c ∧ 0 ≤ e.x.call := by
    rintro y d ⟨hy, hyb, hd⟩
    have := self y hy
    subst this
    have hd : (m.calls.set x.call.toNat e.c)[e.x.call.toNat]? = some d := hd
    rw [(hgo hyb).1] at hd
    simp [hcl] at hd
    exact ⟨rfl, hd.symm, hyb⟩
  have thop : ∀ (c d : ACall) (ws : List Int) (y : RTh), d.op = c.op → ThD ws m.cells y c → ThD ws m.cells y d := fun c d ws y ho hk => by
    have : base d = base c := by unfold base; rw [ho]
    unfold ThD at hk ⊢; rw [this]; exact hk
  refine ⟨hinv, ?_, ?_, ?_, hcells⟩
  · intro t1 t2 x1 x2 h1 h2 hb1 he
    have h1 : (m.all.set t e.x)[t1]? = some x1 := h1
    have h2 : (m.all.set t e.x)[t2]? = some x2 := h2
    by_cases q1 : t = t1
    · subst q1
      by_cases q2 : t = t2
      · exact q2
      · rw [List.getElem?_set_ne q2] at h2
        have := self x1 h1
        subst this
        exact h.uniq t t2 x x2 hx h2 hb (by rw [← (hgo hb1).1]; exact he)
    · rw [List.getElem?_set_ne q1] at h1
      by_cases q2 : t = t2
      · subst q2
        have := self x2 h2
        subst this
        exact h.uniq t1 t x1 x h1 hx hb1 (by rw [he]; exact (hgo (by omega)).1)
      · rw [List.getElem?_set_ne q2] at h2
        exact h.uniq t1 t2 x1 x2 h1 h2 hb1 he
  · intro t2 y d hy
    by_cases q : t2 = t
    · subst q
      obtain ⟨rfl, rfl, hyb⟩ := mine y d hy
      exact thop c _ _ _ hop (hgo hyb).2
    · exact hoth t2 y d q (other t2 y d q hy)
  · intro t1 t2 x1 x2 c1 c2 h1 h2 ho s1 s2 hn
    by_cases q1 : t1 = t
    · subst q1
      obtain ⟨rfl, rfl, hyb⟩ := mine x1 c1 h1
      by_cases q2 : t2 = t1
      · exact q2.symm
      · exact absurd hn.symm (hsole hyb s1 t2 x2 c2 q2 (other t2 x2 c2 q2 h2) (by rw [← ho]; exact hop) s2)
    · have k1 := other t1 x1 c1 q1 h1
      by_cases q2 : t2 = t
      · subst q2
        obtain ⟨rfl, rfl, hyb⟩ := mine x2 c2 h2
        exact absurd hn (hsole hyb s2 t1 x1 c1 q1 k1 (by rw [ho]; exact hop) s1)
      · exact h.sole t1 t2 x1 x2 c1 c2 k1 (other t2 x2 c2 q2 h2) ho s1 s2 hn

theorem Deep.stepped {m : RM} (h : m.Deep) (hmv : m.moves < 65536) {t : Nat} {x : RTh} {c : ACall} (hB : m.RBusy t x c) : Deep { m.step t with moves := m.moves + 1 } := by
  have hi := h.inv
  have hI := hi.stepped hmv hB.1 hB.2.1
  have hs : m.step t = m.put t x.call.toNat (m.eff t x c) := by unfold RM.step; rw [th_of hB.1, call_of hB.2.2]
  rw [hs] at hI ⊢
  obtain ⟨c', hc', hp⟩ := hi.ths t x hB.1 hB.2.1
  rw [hB.2.2] at hc'; injection hc' with hc'; subst hc'
  obtain ⟨e1, e2, e3, e4, e5, e6⟩ := eff_ok hi t hB.2.2 hp
  obtain ⟨o, s0, s1, n0, n1, g⟩ := hp
  have hT := h.ths t x c hB
  obtain ⟨T1, T2, T3⟩ := hT
  have hcl := hi.cells
  have hl := hi.len
  have hb01 := base_01 c
  have hnn := Int.emod_nonneg x.n (show m.cells ≠ 0 by omega)
  have hnl := Int.emod_lt_of_pos x.n (show 0 < m.cells by omega)
  have keep : ∀ t2 y d, t2 ≠ t → m.RBusy t2 y d → ThD m.words m.cells y d := fun t2 y d _ hy => h.ths t2 y d hy
  have kc := h.cellsOK
  -- a store at an address beyond the counters that is no turn's changes nothing
  have noT : ∀ (a v : Int), 2 ≤ a → ∀ k, k < 2 → wd (m.words.set a.toNat v) k = wd m.words k := fun a v ha k hk => by rw [DM.wd_set, if_neg (by omega)]
  have vcell : ∀ (v : Int) (i : Int), 0 ≤ i → i < m.cells → wd (m.words.set (addr m.cells x + 1).toNat v) (2 + 2 * i).toNat = wd m.words (2 + 2 * i).toNat := fun v i h0 h1 => by
    rw [DM.wd_set, if_neg (by unfold addr; omega)]
  have vth : ∀ (v : Int) (y : RTh) (d : ACall), ThD m.words m.cells y d → ThD (m.words.set (addr m.cells x + 1).toNat v) m.cells y d := fun v y d hy => by
    have hy1 := Int.emod_nonneg y.n (show m.cells ≠ 0 by omega)
    have hy2 := Int.emod_lt_of_pos y.n (show 0 < m.cells by omega)
    unfold ThD at hy ⊢
    rw [noT _ v (by unfold addr; omega) _ (base_lt d), show wd (m.words.set (addr m.cells x + 1).toNat v) (addr m.cells y).toNat = wd m.words (addr m.cells y).toNat from vcell v _ hy1 hy2]
    exact hy
  unfold eff at hI e4 e6 ⊢
  split at hI
  · rename_i q0
    rw [if_pos q0] at e4 e6 ⊢
    exact h.step hB hI rfl (fun hb => ⟨rfl, fun _ => Int.le_refl _, fun q => absurd q (by simp only []; omega), fun q => absurd q (by simp only []; omega)⟩) keep (fun _ q => absurd q (by simp only []; omega)) kc
  rename_i q0
  rw [if_neg q0] at e4 e6 ⊢
  split at hI
  · rename_i q1
    rw [if_pos q1] at e4 e6 ⊢
    split at hI
    · rename_i q2
      rw [if_pos q2]
      exact h.step hB hI rfl (fun hb => ⟨rfl, fun q => absurd q (by simp only []; omega), fun _ => ⟨T1 q1, fun _ => q2⟩, fun q => absurd q (by simp only []; omega)⟩) keep (fun _ q => absurd q (by simp only []; omega)) kc
    rename_i q2
    rw [if_neg q2]
    split at hI
    · rename_i q3
      rw [if_pos q3]
      exact h.step hB hI rfl (fun hb => ⟨rfl, fun q => absurd q (by simp only []; omega), fun q => absurd q (by simp only []; omega), fun q => absurd q (by simp only []; omega)⟩) keep (fun _ q => absurd q (by simp only []; omega)) kc
    · rename_i q3
      rw [if_neg q3]
      exact h.step hB hI rfl (fun hb => absurd hb (by simp only []; omega)) keep (fun hb => absurd hb (by simp only []; omega)) kc
  rename_i q1
  rw [if_neg q1] at e4 e6 ⊢
  split at hI
  · rename_i q2
    rw [if_pos q2] at e4 e6 ⊢
    obtain ⟨t2n, t2T⟩ := T2 q2
    split at hI
    · rename_i q3
      rw [if_pos q3]
      -- a ticket is got
      have hT := t2T q3.symm
      have bw : ∀ k, wd (m.words.set (base c).toNat (x.n + 1)) k = if (base c).toNat = k then x.n + 1 else wd m.words k := fun k => by
        rw [DM.wd_set]
        have : (base c).toNat < m.words.length := by have := base_lt c; omega
        simp [this]
      have hw0 : ∀ k, 2 ≤ k → wd (m.words.set (base c).toNat (x.n + 1)) k = wd m.words k := fun k hk => by rw [bw, if_neg (by have := base_lt c; omega)]
      have inj : ∀ d : ACall, (base d).toNat = (base c).toNat → (d.op = 101 ↔ c.op = 101) := fun d e => by unfold base at e; split at e <;> split at e <;> simp_all
      have hTc : wd m.words (2 + 2 * (x.n % m.cells)).toNat = x.n + base c := hT
      refine h.step hB hI rfl (fun hb => ⟨rfl, fun q => absurd q (by simp only []; omega), fun q => absurd q (by simp only []; omega), fun _ => ⟨?_, ?_⟩⟩) ?_ ?_ ?_
      · show x.n < wd (m.words.set _ _) _; rw [bw, if_pos rfl]; omega
      · show wd (m.words.set (base c).toNat (x.n + 1)) (addr m.cells x).toNat = x.n + base c
        rw [hw0 _ (by unfold addr; omega)]; exact hT
      · intro t2 y d q hy
        obtain ⟨Y1, Y2, Y3⟩ := h.ths t2 y d hy
        have hy1 := Int.emod_nonneg y.n (show m.cells ≠ 0 by omega)
        have ea : wd (m.words.set (base c).toNat (x.n + 1)) (addr m.cells y).toNat = wd m.words (addr m.cells y).toNat := hw0 _ (by unfold addr; omega)
        show ThD (m.words.set (base c).toNat (x.n + 1)) m.cells y d
        unfold ThD
        rw [ea, bw]
        split
        · rename_i eb
          rw [← eb] at Y1 Y2 Y3
          exact ⟨fun s => by have := Y1 s; omega, fun s => ⟨by have := (Y2 s).1; omega, fun e => by have := (Y2 s).1; omega⟩, fun s => ⟨by have := (Y3 s).1; omega, (Y3 s).2⟩⟩
        · exact ⟨Y1, Y2, Y3⟩
      · intro _ _ t2 y d q hy ho hst
        have := ((h.ths t2 y d hy).2.2 hst).1
        rw [show base d = base c from by unfold base; rw [ho]] at this
        show y.n ≠ x.n
        omega
      · intro i hi0 hi1
        obtain ⟨j, hj, hk⟩ := kc i hi0 hi1
        show CellOK (m.words.set (base c).toNat (x.n + 1)) m.cells i
        refine ⟨j, hj, ?_⟩
        rw [hw0 _ (by omega), bw, bw]
        rcases o with o | o
        · have eb : base c = 0 := by unfold base; rw [if_neg (by omega)]
          rw [eb] at q3 hTc hT ⊢
          simp only [Int.toNat_zero, if_true, show ¬ (0 : Nat) = 1 from by decide, if_false] at q3 ⊢
          by_cases hin : i = x.n % m.cells
          · subst hin
            rcases hk with ⟨k1, k2, k3, k4, k5⟩ | ⟨k1, k2, k3, k4, k5⟩
            · exact .inl ⟨k1, k2, k3, by omega, by omega⟩
            · exfalso
              have : j = x.n - 1 := by omega
              subst this
              exact absurd hj (DM.emod_ne (by omega) (by omega))
          · rcases hk with ⟨k1, k2, k3, k4, k5⟩ | ⟨k1, k2, k3, k4, k5⟩
            · refine .inl ⟨k1, k2, k3, by omega, ?_⟩
              rcases Int.lt_or_le x.n (j + m.cells) with e | e
              · omega
              · exfalso; apply hin; rw [← hj, show x.n = j + m.cells by omega, Int.add_emod_right]
            · refine .inr ⟨k1, by omega, ?_, k4, k5⟩
              rcases Int.lt_or_le x.n (j + m.cells) with e | e
              · omega
              · exfalso; apply hin; rw [← hj, show x.n = j + m.cells by omega, Int.add_emod_right]
        · have eb : base c = 1 := by unfold base; rw [if_pos o]
          rw [eb] at q3 hTc hT ⊢
          simp only [Int.toNat_one, if_true, show ¬ (1 : Nat) = 0 from by decide, if_false] at q3 ⊢
          by_cases hin : i = x.n % m.cells
          · subst hin
            rcases hk with ⟨k1, k2, k3, k4, k5⟩ | ⟨k1, k2, k3, k4, k5⟩
            · exfalso
              have : j = x.n + 1 := by omega
              subst this
              exact absurd hj.symm (DM.emod_ne (by omega) (by omega))
            · exact .inr ⟨k1, k2, k3, by omega, by omega⟩
          · rcases hk with ⟨k1, k2, k3, k4, k5⟩ | ⟨k1, k2, k3, k4, k5⟩
            · refine .inl ⟨k1, by omega, ?_, k4, k5⟩
              rcases Int.lt_or_le x.n j with e | e
              · omega
              · exfalso; apply hin; rw [← hj, show x.n = j by omega]
            · refine .inr ⟨k1, k2, k3, by omega, ?_⟩
              rcases Int.lt_or_le x.n (j + m.cells) with e | e
              · omega
              · exfalso; apply hin; rw [← hj, show x.n = j + m.cells by omega, Int.add_emod_right]
    · rename_i q3
      rw [if_neg q3]
      exact h.step hB hI rfl (fun hb => ⟨rfl, fun q => absurd q (by simp only []; omega), fun q => absurd q (by simp only []; omega), fun q => absurd q (by simp only []; omega)⟩) keep (fun _ q => absurd q (by simp only []; omega)) kc
  rename_i q2
  rw [if_neg q2] at e4 e6 ⊢
  obtain ⟨t3n, t3T⟩ := T3 (by omega)
  have t3T : wd m.words (2 + 2 * (x.n % m.cells)).toNat = x.n + base c := t3T
  split at hI
  · rename_i q3
    rw [if_pos q3] at e4 e6 ⊢
    split at hI
    · rename_i q4
      rw [if_pos q4]
      exact h.step hB hI rfl (fun hb => ⟨rfl, fun q => absurd q (by simp only []; omega), fun q => absurd q (by simp only []; omega), fun _ => T3 (by omega)⟩) keep
        (fun _ _ t2 y d q hy ho hst e => q (h.sole t2 t y x d c hy hB ho hst (by omega) e)) kc
    · rename_i q4
      rw [if_neg q4]
      refine h.step hB hI rfl (fun hb => ⟨rfl, vth c.arg { x with st := 4 } c ⟨fun q => absurd q (by simp only []; omega), fun q => absurd q (by simp only []; omega), fun _ => T3 (by omega)⟩⟩) (fun t2 y d q hy => vth c.arg y d (h.ths t2 y d hy))
        (fun _ _ t2 y d q hy ho hst e => q (h.sole t2 t y x d c hy hB ho hst (by omega) e)) (fun i h0 h1 => ?_)
      obtain ⟨j, hj, hk⟩ := kc i h0 h1
      refine ⟨j, hj, ?_⟩
      show (wd (m.words.set (addr m.cells x + 1).toNat c.arg) (2 + 2 * i).toNat = j ∧ _) ∨ _
      rw [vcell c.arg i h0 h1, noT _ c.arg (by unfold addr; omega) 0 (by decide), noT _ c.arg (by unfold addr; omega) 1 (by decide)]
      exact hk
  · rename_i q3
    rw [if_neg q3] at e4 e6 ⊢
    have q4 : x.st = 4 := by omega
    -- the turn goes on
    have turn : ∀ v : Int, (∀ j, j % m.cells = x.n % m.cells → wd m.words (2 + 2 * (x.n % m.cells)).toNat = j ∧ j - m.cells < wd m.words 1 ∧ wd m.words 1 ≤ j ∧ j - m.cells < wd m.words 0 ∧ wd m.words 0 ≤ j + m.cells ∨
          wd m.words (2 + 2 * (x.n % m.cells)).toNat = j + 1 ∧ j < wd m.words 0 ∧ wd m.words 0 ≤ j + m.cells ∧ j - m.cells < wd m.words 1 ∧ wd m.words 1 ≤ j + m.cells →
        ∃ j', j' % m.cells = x.n % m.cells ∧ (v = j' ∧ j' - m.cells < wd m.words 1 ∧ wd m.words 1 ≤ j' ∧ j' - m.cells < wd m.words 0 ∧ wd m.words 0 ≤ j' + m.cells ∨
          v = j' + 1 ∧ j' < wd m.words 0 ∧ wd m.words 0 ≤ j' + m.cells ∧ j' - m.cells < wd m.words 1 ∧ wd m.words 1 ≤ j' + m.cells)) →
        (∀ i, 0 ≤ i → i < m.cells → CellOK (m.words.set (addr m.cells x).toNat v) m.cells i) ∧ (∀ t2 y d, t2 ≠ t → m.RBusy t2 y d → ThD (m.words.set (addr m.cells x).toNat v) m.cells y d) := by
      intro v hv
      have wT : ∀ i, 0 ≤ i → i < m.cells → wd (m.words.set (addr m.cells x).toNat v) (2 + 2 * i).toNat = if i = x.n % m.cells then v else wd m.words (2 + 2 * i).toNat := fun i h0 h1 => by
        rw [DM.wd_set]
        by_cases e : i = x.n % m.cells
        · rw [if_pos e, if_pos ⟨by unfold addr; rw [e], by unfold addr; omega⟩]
        · rw [if_neg e, if_neg (by unfold addr; omega)]
      have n0' := noT (addr m.cells x) v (by unfold addr; omega) 0 (by decide)
      have n1' := noT (addr m.cells x) v (by unfold addr; omega) 1 (by decide)
      refine ⟨fun i h0 h1 => ?_, fun t2 y d q hy => ?_⟩
      · obtain ⟨j, hj, hk⟩ := kc i h0 h1
        by_cases e : i = x.n % m.cells
        · subst e
          obtain ⟨j', hj', hk'⟩ := hv j hj hk
          refine ⟨j', hj', ?_⟩
          rw [wT _ h0 h1, if_pos rfl, n0', n1']
          exact hk'
        · refine ⟨j, hj, ?_⟩
          rw [wT _ h0 h1, if_neg e, n0', n1']
          exact hk
      · have hy0 := h.ths t2 y d hy
        have hy1 := Int.emod_nonneg y.n (show m.cells ≠ 0 by omega)
        have hy2 := Int.emod_lt_of_pos y.n (show 0 < m.cells by omega)
        have eb : wd (m.words.set (addr m.cells x).toNat v) (base d).toNat = wd m.words (base d).toNat := noT _ v (by unfold addr; omega) _ (base_lt d)
        by_cases e : y.n % m.cells = x.n % m.cells
        · -- none but this one has to do with this cell
          obtain ⟨Y1, Y2, Y3⟩ := hy0
          have eT : wd m.words (addr m.cells y).toNat = x.n + base c := by rw [← t3T]; unfold addr; rw [e]
          rw [eT] at Y2 Y3
          obtain ⟨d', hd', hpd⟩ := hi.ths t2 y hy.1 hy.2.1
          rw [hy.2.2] at hd'; injection hd' with hd'; subst hd'
          have hbd := base_01 d
          have far : x.n + base c = y.n + base d → x.n = y.n ∧ base c = base d := by
            intro hh
            rcases Int.lt_trichotomy x.n y.n with f | f | f
            · exact absurd e.symm (DM.emod_ne f (by omega))
            · exact ⟨f, by omega⟩
            · exact absurd e (DM.emod_ne f (by omega))
          unfold ThD
          rw [eb]
          refine ⟨Y1, fun s => ⟨(Y2 s).1, fun f => ?_⟩, fun s => ?_⟩
          · exfalso
            obtain ⟨f1, f2⟩ := far ((Y2 s).2 f)
            rw [← f2] at f
            omega
          · exfalso
            obtain ⟨f1, f2⟩ := far (Y3 s).2
            refine q (h.sole t2 t y x d c hy hB ?_ s (by omega) f1.symm)
            have := hpd.1
            unfold base at f2
            split at f2 <;> split at f2 <;> omega
        · have ea : wd (m.words.set (addr m.cells x).toNat v) (addr m.cells y).toNat = wd m.words (addr m.cells y).toNat := by
            have := wT (y.n % m.cells) hy1 hy2
            rw [if_neg e] at this
            exact this
          unfold ThD at hy0 ⊢
          rw [eb, ea]
          exact hy0
    split at hI
    · rename_i q5
      rw [if_pos q5]
      have eb : base c = 1 := by unfold base; rw [if_pos q5]
      rw [eb] at t3n t3T
      have t3n : x.n < wd m.words 1 := t3n
      obtain ⟨k1, k2⟩ := turn (x.n + m.cells) (fun j hj hk => by
        rcases hk with ⟨k1, k2, k3, k4, k5⟩ | ⟨k1, k2, k3, k4, k5⟩
        · exfalso
          have : j = x.n + 1 := by omega
          subst this
          exact absurd hj.symm (DM.emod_ne (by omega) (by omega))
        · have : j = x.n := by omega
          subst this
          exact ⟨x.n + m.cells, by rw [Int.add_emod_right], .inl ⟨rfl, by omega, by omega, by omega, by omega⟩⟩)
      exact h.step hB hI rfl (fun hb => absurd hb (by simp only []; omega)) k2 (fun hb => absurd hb (by simp only []; omega)) k1
    · rename_i q5
      rw [if_neg q5]
      have eb : base c = 0 := by unfold base; rw [if_neg q5]
      rw [eb] at t3n t3T
      have t3n : x.n < wd m.words 0 := t3n
      obtain ⟨k1, k2⟩ := turn (x.n + 1) (fun j hj hk => by
        rcases hk with ⟨k1, k2, k3, k4, k5⟩ | ⟨k1, k2, k3, k4, k5⟩
        · have : j = x.n := by omega
          subst this
          exact ⟨x.n, rfl, .inr ⟨rfl, by omega, by omega, by omega, by omega⟩⟩
        · exfalso
          have : j = x.n - 1 := by omega
          subst this
          exact absurd hj (DM.emod_ne (by omega) (by omega)))
      exact h.step hB hI rfl (fun hb => absurd hb (by simp only []; omega)) k2 (fun hb => absurd hb (by simp only []; omega)) k1

end RM
end Go.Proofs.Ythifeaigdobonaa

namespace Go.Proofs.Ythifeaigdobonaa
namespace RM

theorem Deep.tick {m : RM} (h : m.Deep) (hmv : m.moves < 65536) : Deep { m with moves := m.moves + 1 } := ⟨h.inv.tick hmv, h.uniq, h.ths, h.sole, h.cellsOK⟩

theorem Deep.begun {m : RM} (h : m.Deep) (hmv : m.moves < 65536) {t : Nat} {x : RTh} {op arg data : Int} (hx : m.all[t]? = some x) (_hb : x.call < 0) (harg : I64 arg) (hl : op = 100 ∨ op = 101) :
    Deep { m.begins t op arg data with moves := m.moves + 1 } := by
  have hlt : t < m.all.length := (List.getElem?_eq_some_iff.1 hx).1
  have self : ∀ y, (m.all.set t ⟨m.calls.length, 0, 0, 0⟩)[t]? = some y → y = ⟨m.calls.length, 0, 0, 0⟩ := fun y hy => by simp [hlt] at hy; exact hy.symm
  have bound : ∀ (t2 : Nat) (y : RTh), m.all[t2]? = some y → 0 ≤ y.call → y.call.toNat < m.calls.length := fun t2 y hy hyb => by
    obtain ⟨d, hd, _⟩ := h.inv.ths t2 y hy hyb
    exact (List.getElem?_eq_some_iff.1 hd).1
  have other : ∀ t2 y d, t2 ≠ t → RBusy { m.begins t op arg data with moves := m.moves + 1 } t2 y d → m.RBusy t2 y d := by
    rintro t2 y d q ⟨hy, hyb, hd⟩
    have hy : (m.all.set t ⟨m.calls.length, 0, 0, 0⟩)[t2]? = some y := hy
    rw [List.getElem?_set_ne (Ne.symm q)] at hy
    have hd : (m.calls ++ [callNew t op arg data m.moves])[y.call.toNat]? = some d := hd
    rw [List.getElem?_append_left (bound t2 y hy hyb)] at hd
    exact ⟨hy, hyb, hd⟩
  have mine : ∀ y d, RBusy { m.begins t op arg data with moves := m.moves + 1 } t y d → y.st = 0 := fun y d hy => by rw [self y hy.1]
  refine ⟨h.inv.begun hmv hx harg hl, ?_, ?_, ?_, h.cellsOK⟩
  · intro t1 t2 x1 x2 h1 h2 hb1 he
    have h1 : (m.all.set t ⟨m.calls.length, 0, 0, 0⟩)[t1]? = some x1 := h1
    have h2 : (m.all.set t ⟨m.calls.length, 0, 0, 0⟩)[t2]? = some x2 := h2
    by_cases q1 : t = t1
    · subst q1
      by_cases q2 : t = t2
      · exact q2
      · rw [List.getElem?_set_ne q2] at h2
        have := self x1 h1
        subst this
        have he : (m.calls.length : Int) = x2.call := he
        have := bound t2 x2 h2 (by omega)
        omega
    · rw [List.getElem?_set_ne q1] at h1
      by_cases q2 : t = t2
      · subst q2
        have := self x2 h2
        subst this
        have he : x1.call = (m.calls.length : Int) := he
        have := bound t1 x1 h1 hb1
        omega
      · rw [List.getElem?_set_ne q2] at h2
        exact h.uniq t1 t2 x1 x2 h1 h2 hb1 he
  · intro t2 y d hy
    by_cases q : t2 = t
    · subst q
      have := mine y d hy
      exact ⟨fun _ => by omega, fun _ => by omega, fun _ => by omega⟩
    · exact h.ths t2 y d (other t2 y d q hy)
  · intro t1 t2 x1 x2 c1 c2 h1 h2 ho s1 s2 hn
    by_cases q1 : t1 = t
    · subst q1; have := mine x1 c1 h1; omega
    by_cases q2 : t2 = t
    · subst q2; have := mine x2 c2 h2; omega
    exact h.sole t1 t2 x1 x2 c1 c2 (other t1 x1 c1 q1 h1) (other t2 x2 c2 q2 h2) ho s1 s2 hn

theorem Deep.busy {m : RM} (h : m.Deep) {t : Nat} {x : RTh} (hx : m.all[t]? = some x) (hb : 0 ≤ x.call) : ∃ c, m.RBusy t x c := by
  obtain ⟨c, hc, _⟩ := h.inv.ths t x hx hb
  exact ⟨c, hx, hb, hc⟩

theorem Deep.moved {m : RM} (h : m.Deep) (v : DM.Mv) (harg : I64 v.arg) : Deep (m.move v).1 := by
  unfold move
  split
  · exact h
  · rename_i hm
    have hmv : m.moves < 65536 := by omega
    show Deep { (m.move0 v).1 with moves := m.moves + 1 }
    unfold move0
    split
    · exact h.tick hmv
    · rename_i hth
      obtain ⟨t, ht⟩ := Int.eq_ofNat_of_zero_le (show 0 ≤ v.thread by omega)
      have hlt : t < m.all.length := by omega
      have hx := List.getElem?_eq_getElem hlt
      have hT : v.thread.toNat = t := by omega
      have hth' : m.th v.thread.toNat = m.all[t] := by rw [hT]; exact th_of hx
      split
      · split
        · exact h.tick hmv
        · rename_i hc
          rw [hth'] at hc
          rw [hT]
          obtain ⟨c, hB⟩ := h.busy hx (by omega)
          exact h.stepped hmv hB
      · split
        · exact h.tick hmv
        · rename_i hc
          rw [hth', not_or] at hc
          rw [hT]
          exact h.begun hmv hx (by omega) harg (legal_iff.1 (by simpa using hc.2))

theorem Deep.runs {m : RM} (h : m.Deep) : ∀ (l : List DM.Mv), (∀ v ∈ l, I64 v.arg) → Deep (m.runs l) := by
  intro l
  induction l generalizing m with
  | nil => intro _; exact h
  | cons v l ih => intro ha; exact ih (h.moved v (ha v (by simp))) fun u hu => ha u (by simp [hu])

theorem Deep.start (threads cells : Nat) (h1 : 1 ≤ threads) (h2 : threads ≤ 16) (h3 : 2 ≤ cells) (h4 : cells ≤ 64) : Deep (init threads cells) := by
  have idle : ∀ (t : Nat) (x : RTh), (init threads cells).all[t]? = some x → x.call = -1 := fun t x hx => by
    have : x = noTh := List.eq_of_mem_replicate (List.mem_of_getElem? hx)
    rw [this]; rfl
  refine ⟨Inv.start threads cells h1 h2 h3 h4, fun t1 t2 x1 x2 h1 _ hb => by have := idle t1 x1 h1; omega, fun t x c hB => by have := idle t x hB.1; have := hB.2.1; omega, fun t1 t2 x1 x2 c1 c2 h1 => by have := idle t1 x1 h1.1; have := h1.2.1; omega, fun i h0 hi => ?_⟩
  have hi : i < (cells : Int) := hi
  obtain ⟨k, rfl⟩ := Int.eq_ofNat_of_zero_le h0
  refine ⟨k, Int.emod_eq_of_lt h0 hi, .inl ?_⟩
  have e : wd (init threads cells).words (2 + 2 * (k : Int)).toNat = k := by
    have := (turns_get cells k (by omega)).1
    unfold wd
    rw [show (2 + 2 * (k : Int)).toNat = 2 * k + 2 from by omega]
    show ((turns cells)[2 * k]?).getD 0 = k
    rw [this]; rfl
  refine ⟨e, ?_, ?_, ?_, ?_⟩
  · show (k : Int) - cells < 0; omega
  · show (0 : Int) ≤ k; omega
  · show (k : Int) - cells < 0; omega
  · show (0 : Int) ≤ k + cells; omega

/-- How many steps of its own a call may still need. -/
def need (m : RM) (x : RTh) (c : ACall) : Int :=
  if x.st = 0 then 5 else if x.st = 1 then (if x.n = wd m.words (base c).toNat then 4 else 7) else if x.st = 2 then (if x.n = wd m.words (base c).toNat then 3 else 6) else if x.st = 3 then 2 else 1

def Within (m : RM) (t : Nat) (k : Int) : Prop := ∀ x c, m.RBusy t x c → need m x c ≤ k

theorem Within.seven (m : RM) (t : Nat) : Within m t 7 := by
  intro x c _
  unfold need
  repeat' split
  all_goals omega

theorem Within.idle {m : RM} (h : m.Deep) {t : Nat} {x : RTh} (hx : m.all[t]? = some x) (hw : Within m t 0) : x.call < 0 := by
  rcases Int.lt_or_le x.call 0 with q | q
  · exact q
  · obtain ⟨c, hB⟩ := h.busy hx q
    have := hw x c hB
    unfold need at this
    repeat' split at this
    all_goals omega

/-- The turn of the cell of the next ticket is no later one. -/
theorem Deep.fresh {m : RM} (h : m.Deep) (x : RTh) (c : ACall) (hn : x.n = wd m.words (base c).toNat) : wd m.words (addr m.cells x).toNat ≤ x.n + base c := by
  have hcl := h.inv.cells
  have hnn := Int.emod_nonneg x.n (show m.cells ≠ 0 by omega)
  have hnl := Int.emod_lt_of_pos x.n (show 0 < m.cells by omega)
  obtain ⟨j, hj, hk⟩ := h.cellsOK _ hnn hnl
  have hk : wd m.words (addr m.cells x).toNat = j ∧ _ ∨ wd m.words (addr m.cells x).toNat = j + 1 ∧ _ := hk
  have far : j - m.cells < x.n → j ≤ x.n := fun h1 => by
    rcases Int.lt_or_le x.n j with q | q
    · exact absurd hj.symm (DM.emod_ne q (by omega))
    · exact q
  rcases show base c = 0 ∨ base c = 1 from by unfold base; split <;> simp with eb | eb
  · rw [eb] at hn ⊢
    have hn : x.n = wd m.words 0 := hn
    rcases hk with ⟨k1, k2, k3, k4, k5⟩ | ⟨k1, k2, k3, k4, k5⟩
    · have := far (by omega); omega
    · omega
  · rw [eb] at hn ⊢
    have hn : x.n = wd m.words 1 := hn
    rcases hk with ⟨k1, k2, k3, k4, k5⟩ | ⟨k1, k2, k3, k4, k5⟩
    · have := far (by omega); omega
    · have := far (by omega); omega

theorem Within.step {m : RM} (h : m.Deep) {t : Nat} {x : RTh} {c : ACall} {k : Int} (hB : m.RBusy t x c) (hw : Within m t (k + 1)) : Within (m.step t) t k := by
  have hlt : t < m.all.length := (List.getElem?_eq_some_iff.1 hB.1).1
  have hcl : x.call.toNat < m.calls.length := (List.getElem?_eq_some_iff.1 hB.2.2).1
  have hs : m.step t = m.put t x.call.toNat (m.eff t x c) := by unfold RM.step; rw [th_of hB.1, call_of hB.2.2]
  rw [hs]
  have hn := hw x c hB
  obtain ⟨c', hc', hp⟩ := h.inv.ths t x hB.1 hB.2.1
  rw [hB.2.2] at hc'; injection hc' with hc'; subst hc'
  obtain ⟨_, _, _, e4, _, e6⟩ := eff_ok h.inv t hB.2.2 hp
  have hf := h.fresh x c
  obtain ⟨o, s0, s1, n0, n1, g⟩ := hp
  rintro y d ⟨hy, hyb, hd⟩
  have hy : (m.all.set t (m.eff t x c).x)[t]? = some y := hy
  have : y = (m.eff t x c).x := by simp [hlt] at hy; exact hy.symm
  subst this
  have hd : (m.calls.set x.call.toNat (m.eff t x c).c)[(m.eff t x c).x.call.toNat]? = some d := hd
  rw [(e6 hyb).1] at hd
  have : d = (m.eff t x c).c := by simp [hcl] at hd; exact hd.symm
  subst this
  clear hy hd e6
  have eb : base (m.eff t x c).c = base c := by unfold base; rw [e4]
  unfold need at hn ⊢
  rw [eb]
  show (if (m.eff t x c).x.st = 0 then 5 else if (m.eff t x c).x.st = 1 then (if (m.eff t x c).x.n = wd (m.eff t x c).words (base c).toNat then 4 else 7) else if (m.eff t x c).x.st = 2 then (if (m.eff t x c).x.n = wd (m.eff t x c).words (base c).toNat then 3 else 6) else if (m.eff t x c).x.st = 3 then 2 else 1 : Int) ≤ k
  clear eb e4
  unfold eff at hyb ⊢
  by_cases q0 : x.st = 0
  · simp only [if_pos q0] at hn ⊢
    simp
    omega
  simp only [if_neg q0] at hn hyb ⊢
  by_cases q1 : x.st = 1
  · simp only [if_pos q1] at hn hyb ⊢
    by_cases q2 : wd m.words (addr m.cells x).toNat = x.n + base c
    · simp only [if_pos q2]
      split at hn
      · rename_i q; simp [q]; omega
      · rename_i q; simp [q]; omega
    simp only [if_neg q2] at hyb ⊢
    by_cases q3 : x.n + base c < wd m.words (addr m.cells x).toNat
    · simp only [if_pos q3]
      split at hn
      · rename_i q; have := hf q; omega
      · simp; omega
    · simp only [if_neg q3] at hyb
      exact absurd hyb (by simp)
  simp only [if_neg q1] at hn hyb ⊢
  by_cases q2 : x.st = 2
  · simp only [if_pos q2] at hn hyb ⊢
    by_cases q3 : wd m.words (base c).toNat = x.n
    · simp only [if_pos q3]
      rw [if_pos q3.symm] at hn
      simp; omega
    · simp only [if_neg q3]
      rw [if_neg (fun e => q3 e.symm)] at hn
      simp; omega
  simp only [if_neg q2] at hn hyb ⊢
  by_cases q3 : x.st = 3
  · simp only [if_pos q3] at hn hyb ⊢
    split <;> (simp; omega)
  simp only [if_neg q3] at hn hyb ⊢
  exfalso
  split at hyb <;> exact absurd hyb (by simp)

theorem put_len (m : RM) (t i : Nat) (e : REff) : (m.put t i e).all.length = m.all.length := by simp [put]
theorem move_len (m : RM) (v : DM.Mv) : (m.move v).1.all.length = m.all.length := by
  unfold move
  split
  · rfl
  · show (m.move0 v).1.all.length = _
    unfold move0
    repeat' split
    all_goals first | rfl | exact put_len _ _ _ _ | simp [begins]
theorem runs_len (m : RM) (l : List DM.Mv) : (m.runs l).all.length = m.all.length := by
  induction l generalizing m with
  | nil => rfl
  | cons v l ih => rw [show m.runs (v :: l) = (m.move v).1.runs l from rfl, ih, move_len]

theorem move0_moves (m : RM) (v : DM.Mv) : (m.move0 v).1.moves = m.moves := by
  unfold move0
  repeat' split
  all_goals rfl
theorem move_moves (m : RM) (v : DM.Mv) : (m.move v).1.moves = if 65536 ≤ m.moves then m.moves else m.moves + 1 := by
  unfold move
  split <;> rfl
theorem runs_moves {m : RM} (l : List DM.Mv) : m.moves + l.length ≤ 65536 → (m.runs l).moves = m.moves + l.length := by
  induction l generalizing m with
  | nil => intro _; simp [RM.runs]
  | cons v l ih =>
    intro hm
    simp only [List.length_cons] at hm ⊢
    have e := move_moves m v
    rw [if_neg (by omega)] at e
    rw [show m.runs (v :: l) = (m.move v).1.runs l from rfl, ih (by rw [e]; omega), e]
    omega

theorem Within.moved {m : RM} (h : m.Deep) (hmv : m.moves < 65536) {t : Nat} {k a d : Int} (ht : t < m.all.length) (hw : Within m t (k + 1)) : Within (m.move ⟨t, 0, a, d⟩).1 t k := by
  have hx := List.getElem?_eq_getElem ht
  unfold move
  rw [if_neg (by omega)]
  show Within { (m.move0 _).1 with moves := _ } t k
  have key : Within (m.move0 ⟨t, 0, a, d⟩).1 t k := by
    unfold move0
    dsimp only
    rw [if_neg (by omega), if_pos rfl, Int.toNat_natCast, th_of hx]
    split
    · rintro x c ⟨hx', hb, _⟩
      rw [hx] at hx'; injection hx' with hx'; subst hx'; omega
    · obtain ⟨c, hB⟩ := h.busy hx (by omega)
      exact Within.step h hB hw
  exact key

theorem Within.turns {m : RM} (h : m.Deep) {t : Nat} {a d : Int} (ha : I64 a) (ht : t < m.all.length) : ∀ n : Nat, ∀ k : Int, m.moves + n ≤ 65536 → Within m t (k + n) → Within (m.runs (List.replicate n ⟨t, 0, a, d⟩)) t k := by
  intro n
  induction n generalizing m with
  | zero => intro k _ hw; simpa [RM.runs] using hw
  | succ n ih =>
    intro k hm hw
    have hmv : m.moves < 65536 := by omega
    have e := move_moves m ⟨t, 0, a, d⟩
    rw [if_neg (by omega)] at e
    refine ih (h.moved _ ha) (by rw [move_len]; exact ht) k (by rw [e]; omega) ?_
    exact Within.moved h hmv ht (by rw [show k + (n : Int) + 1 = k + ((n + 1 : Nat) : Int) from by omega]; exact hw)

/-- Is a thread in a call? -/
def busy (m : RM) (t : Int) : Bool := decide (0 ≤ t ∧ t < (m.all.length : Int) ∧ 0 ≤ (m.th t.toNat).call)

/-- The law: eight steps of one's own end a call. -/
theorem alone {m : RM} (h : m.Deep) {t : Nat} {a d : Int} (ha : I64 a) (ht : t < m.all.length) (hm : m.moves + 8 ≤ 65536) : (m.runs (List.replicate 8 ⟨t, 0, a, d⟩)).busy t = false := by
  have hi := h.runs (List.replicate 8 ⟨t, 0, a, d⟩) (fun v hv => by rw [List.eq_of_mem_replicate hv]; exact ha)
  have ht' : t < (m.runs (List.replicate 8 ⟨t, 0, a, d⟩)).all.length := by rw [runs_len]; exact ht
  have hx := List.getElem?_eq_getElem ht'
  have key := Within.idle hi hx (Within.turns h ha ht 8 0 hm (fun x c hB => by have := Within.seven m t x c hB; omega))
  rw [← th_of hx] at key
  exact decide_eq_false (fun q => by rw [Int.toNat_natCast] at q; omega)

end RM
end Go.Proofs.Ythifeaigdobonaa
