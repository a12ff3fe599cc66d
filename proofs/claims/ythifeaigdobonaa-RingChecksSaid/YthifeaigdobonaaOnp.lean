/- The deque's values: what was pushed is what was taken, stolen, on its way and what is left. Plain Lean. -/
import Derived.Test.YthifeaigdobonaaAlo
namespace Go.Proofs.Ythifeaigdobonaa
namespace DM

/-- The cell of a number. -/
def cellOf (words : List Int) (room i : Int) : Int := wd words (2 + i % room).toNat
/-- The values of the numbers from a up to b. -/
def valsOf (words : List Int) (room a b : Int) : List Int := (List.range (b - a).toNat).map fun i => cellOf words room (a + (i : Nat))

theorem cellOf_low {words : List Int} {room : Int} (hr : 1 ≤ room) (i : Int) {j : Nat} (hj : j < 2) (v : Int) : cellOf (words.set j v) room i = cellOf words room i := by
  have := Int.emod_nonneg i (show room ≠ 0 by omega)
  unfold cellOf
  rw [wd_set, if_neg (by omega)]

theorem cellOf_other {words : List Int} {room : Int} (hr : 1 ≤ room) {i b : Int} (h : i % room ≠ b % room) (v : Int) : cellOf (words.set (2 + b % room).toNat v) room i = cellOf words room i := by
  have := Int.emod_nonneg i (show room ≠ 0 by omega)
  have := Int.emod_nonneg b (show room ≠ 0 by omega)
  unfold cellOf
  rw [wd_set, if_neg (by omega)]

theorem cellOf_same {words : List Int} {room b : Int} (hr : 1 ≤ room) (hl : (words.length : Int) = 2 + room) (v : Int) : cellOf (words.set (2 + b % room).toNat v) room b = v := by
  have := Int.emod_nonneg b (show room ≠ 0 by omega)
  have := Int.emod_lt_of_pos b (show 0 < room by omega)
  unfold cellOf
  rw [wd_set, if_pos ⟨rfl, by omega⟩]

theorem emod_ne {room i b : Int} (h1 : i < b) (h2 : b - i < room) : i % room ≠ b % room := by
  intro e
  have h3 := Int.emod_add_mul_ediv i room
  have h4 := Int.emod_add_mul_ediv b room
  have h5 : room * (b / room - i / room) = b - i := by rw [Int.mul_sub]; omega
  have h6 : 0 < room := by omega
  rcases Int.lt_or_le 0 (b / room - i / room) with h | h
  · have : room * 1 ≤ room * (b / room - i / room) := Int.mul_le_mul_of_nonneg_left h (by omega)
    omega
  · have : room * (b / room - i / room) ≤ room * 0 := Int.mul_le_mul_of_nonneg_left h (by omega)
    omega

theorem vals_congr {w1 w2 : List Int} {room a b : Int} (h : ∀ i, a ≤ i → i < b → cellOf w1 room i = cellOf w2 room i) : valsOf w1 room a b = valsOf w2 room a b := by
  unfold valsOf
  refine List.map_congr_left fun i hi => ?_
  rw [List.mem_range] at hi
  exact h _ (by omega) (by omega)

theorem vals_nil {words : List Int} {room a b : Int} (h : b ≤ a) : valsOf words room a b = [] := by
  unfold valsOf
  rw [show (b - a).toNat = 0 from by omega]; rfl

theorem vals_snoc {words : List Int} {room a b : Int} (h : a ≤ b) : valsOf words room a (b + 1) = valsOf words room a b ++ [cellOf words room b] := by
  unfold valsOf
  rw [show (b + 1 - a).toNat = (b - a).toNat + 1 from by omega, List.range_succ, List.map_append]
  simp only [List.map_cons, List.map_nil]
  rw [show a + (((b - a).toNat : Nat) : Int) = b from by omega]

theorem vals_cons {words : List Int} {room a b : Int} (h : a < b) : valsOf words room a b = cellOf words room a :: valsOf words room (a + 1) b := by
  unfold valsOf
  rw [show (b - a).toNat = (b - (a + 1)).toNat + 1 from by omega, List.range_succ_eq_map]
  simp only [List.map_cons, List.map_map]
  refine List.cons_eq_cons.2 ⟨by simp, List.map_congr_left fun i _ => ?_⟩
  show cellOf words room (a + ((i + 1 : Nat) : Int)) = cellOf words room (a + 1 + (i : Int))
  rw [show a + ((i + 1 : Nat) : Int) = a + 1 + (i : Int) from by omega]

theorem fm_none {f : ACall → Option Int} {l : List ACall} {i : Nat} {c c' : ACall} (hc : l[i]? = some c) (h1 : f c = none) (h2 : f c' = none) : (l.set i c').filterMap f = l.filterMap f := by
  induction l generalizing i with
  | nil => rfl
  | cons a l ih =>
    cases i with
    | zero => simp at hc; subst hc; simp [h1, h2]
    | succ i => simp at hc; simp only [List.set_cons_succ, List.filterMap_cons]; rw [ih hc]

theorem fm_some {f : ACall → Option Int} {l : List ACall} {i : Nat} {c c' : ACall} {v : Int} (hc : l[i]? = some c) (h1 : f c = none) (h2 : f c' = some v) : ((l.set i c').filterMap f).Perm (v :: l.filterMap f) := by
  induction l generalizing i with
  | nil => simp at hc
  | cons a l ih =>
    cases i with
    | zero => simp at hc; subst hc; simp [h1, h2]
    | succ i =>
      simp at hc
      simp only [List.set_cons_succ, List.filterMap_cons]
      cases hf : f a with
      | none => exact ih hc
      | some u => exact ((ih hc).cons u).trans (List.Perm.swap _ _ _)

def insF (c : ACall) : Option Int := if c.op = 90 ∧ c.ak = 1 then some c.arg else none
def outF (c : ACall) : Option Int := if c.op ≠ 90 ∧ c.ak = 2 then some c.av else none
theorem insF_no {c : ACall} (h : c.ak ≠ 1) : insF c = none := by unfold insF; rw [if_neg (by omega)]
theorem outF_no {c : ACall} (h : c.ak ≠ 2) : outF c = none := by unfold outF; rw [if_neg (by omega)]

/-- What stands in the deque ends here. -/
def endOf (words : List Int) (down last : Int) : Int := if 0 ≤ down then last + 1 else wd words 1

structure ThD (words : List Int) (room e : Int) (x : Th) (c : ACall) : Prop where
  fresh : c.ak = 0 ∧ c.stop < 0
  st : c.op = 92 → 3 ≤ x.line → x.t = wd words 0 → wd words 0 < e
  sv : c.op = 92 → x.line = 4 → x.t = wd words 0 → x.v = cellOf words room x.t
  pr : c.op = 90 → 3 ≤ x.line → x.b - wd words 0 < room
  pv : c.op = 90 → x.line = 4 → cellOf words room x.b = c.arg
  t4 : c.op = 91 → x.line = 4 → wd words 0 = x.b ∧ x.t = x.b
  t6 : c.op = 91 → 6 ≤ x.line → x.t = x.b - 1
  t7 : c.op = 91 → 7 ≤ x.line → wd words 0 = x.b
  tv : c.op = 91 → x.line = 6 ∨ x.line = 7 → x.v = cellOf words room (x.b - 1)

/-- A call on its way, and its thread. -/
def Busy (all : List Th) (calls : List ACall) (t : Nat) (x : Th) (c : ACall) : Prop := all[t]? = some x ∧ 0 ≤ x.call ∧ calls[x.call.toNat]? = some c

def Mode (all : List Th) (calls : List ACall) (top last : Int) : Prop :=
  (top ≤ last ∧ ∀ t x c, Busy all calls t x c → c.op = 92 → 3 ≤ x.line → x.t ≠ last) ∨ (last ≤ top ∧ ∀ x c, Busy all calls 0 x c → c.op = 91 → 5 ≤ x.line → last ≤ x.t)

def flight (all : List Th) (down : Int) : List Int := if 0 ≤ down ∧ (all[0]?.getD noTh).line = 7 then [(all[0]?.getD noTh).v] else []

structure Deep (m : DM) : Prop where
  inv : Inv m
  ths : ∀ (t : Nat) (x : Th) (c : ACall), Busy m.all m.calls t x c → ThD m.words m.room (endOf m.words m.down m.last) x c
  owner : ∀ (i : Nat) (c : ACall), m.calls[i]? = some c → c.stop < 0 → ∃ (t : Nat) (x : Th), m.all[t]? = some x ∧ x.call = i
  uniq : ∀ (t1 t2 : Nat) (x1 x2 : Th), m.all[t1]? = some x1 → m.all[t2]? = some x2 → 0 ≤ x1.call → x1.call = x2.call → t1 = t2
  le : wd m.words 0 ≤ endOf m.words m.down m.last
  size : endOf m.words m.down m.last - wd m.words 0 ≤ m.room
  mode : 0 ≤ m.down → Mode m.all m.calls (wd m.words 0) m.last
  cons : (m.calls.filterMap insF).Perm (m.calls.filterMap outF ++ (flight m.all m.down ++ valsOf m.words m.room (wd m.words 0) (endOf m.words m.down m.last)))

theorem ThD.bot {words : List Int} {room e : Int} {x : Th} {c : ACall} (hr : 1 ≤ room) (v : Int) (h : ThD words room e x c) : ThD (words.set 1 v) room e x c := by
  have e0 : wd (words.set 1 v) 0 = wd words 0 := by rw [wd_set, if_neg (by omega)]
  have ec : ∀ i, cellOf (words.set 1 v) room i = cellOf words room i := fun i => cellOf_low hr i (by omega) v
  exact ⟨h.fresh, by rw [e0]; exact h.st, by rw [e0, ec]; exact h.sv, by rw [e0]; exact h.pr, by rw [ec]; exact h.pv, by rw [e0]; exact h.t4, h.t6, by rw [e0]; exact h.t7, by rw [ec]; exact h.tv⟩

theorem ThD.up {words : List Int} {room e e' : Int} {x : Th} {c : ACall} (hle : e ≤ e') (h : ThD words room e x c) : ThD words room e' x c :=
  ⟨h.fresh, fun a b d => by have := h.st a b d; omega, h.sv, h.pr, h.pv, h.t4, h.t6, h.t7, h.tv⟩

/-- One step's effect, told by its parts, keeps it all. -/
theorem Deep.step {m : DM} (h : m.Deep) {t : Nat} {x x' : Th} {c c' : ACall} {words' : List Int} {acc : Acc} {down' last' : Int} (hx : m.all[t]? = some x) (hb : 0 ≤ x.call) (hc : m.calls[x.call.toNat]? = some c)
    (hinv : Inv { m with words := words', trace := m.trace ++ [acc], all := m.all.set t x', calls := m.calls.set x.call.toNat c', moves := m.moves + 1, down := down', last := last' })
    (hgo : 0 ≤ x'.call → x'.call = x.call ∧ ThD words' m.room (endOf words' down' last') x' c') (hend : x'.call < 0 → 0 ≤ c'.stop)
    (hoth : ∀ t2 y d, t2 ≠ t → Busy m.all m.calls t2 y d → ThD words' m.room (endOf words' down' last') y d)
    (hle : wd words' 0 ≤ endOf words' down' last') (hsize : endOf words' down' last' - wd words' 0 ≤ m.room)
    (hmode : 0 ≤ down' → Mode (m.all.set t x') (m.calls.set x.call.toNat c') (wd words' 0) last')
    (hcons : ((m.calls.set x.call.toNat c').filterMap insF).Perm ((m.calls.set x.call.toNat c').filterMap outF ++ (flight (m.all.set t x') down' ++ valsOf words' m.room (wd words' 0) (endOf words' down' last')))) :
    Deep { m with words := words', trace := m.trace ++ [acc], all := m.all.set t x', calls := m.calls.set x.call.toNat c', moves := m.moves + 1, down := down', last := last' } := by
  have hlt : t < m.all.length := (List.getElem?_eq_some_iff.1 hx).1
  have hcl : x.call.toNat < m.calls.length := (List.getElem?_eq_some_iff.1 hc).1
  refine ⟨hinv, ?_, ?_, ?_, hle, hsize, hmode, hcons⟩
  · rintro t2 y d ⟨hy, hyb, hd⟩
    have hy : (m.all.set t x')[t2]? = some y := hy
    have hd : (m.calls.set x.call.toNat c')[y.call.toNat]? = some d := hd
    by_cases e : t = t2
    · subst e
      have : y = x' := by simp [hlt] at hy; exact hy.symm
      subst this
      obtain ⟨e1, e2⟩ := hgo hyb
      rw [e1] at hd
      have : d = c' := by simp [hcl] at hd; exact hd.symm
      subst this
      exact e2
    · rw [List.getElem?_set_ne e] at hy
      rw [List.getElem?_set_ne (fun e2 => e (h.uniq t t2 x y hx hy hb (by omega)))] at hd
      exact hoth t2 y d (fun e2 => e e2.symm) ⟨hy, hyb, hd⟩
  · intro i d hd hs
    have hd : (m.calls.set x.call.toNat c')[i]? = some d := hd
    by_cases e : x.call.toNat = i
    · subst e
      have : d = c' := by simp [hcl] at hd; exact hd.symm
      subst this
      have hx' : 0 ≤ x'.call := by
        rcases Int.lt_or_le x'.call 0 with q | q
        · have := hend q; omega
        · exact q
      exact ⟨t, x', by show (m.all.set t x')[t]? = _; simp [hlt], by rw [(hgo hx').1]; omega⟩
    · rw [List.getElem?_set_ne e] at hd
      obtain ⟨t2, y, hy, hyc⟩ := h.owner i d hd hs
      have : t ≠ t2 := by rintro rfl; rw [hx] at hy; injection hy with hy; subst hy; omega
      exact ⟨t2, y, by show (m.all.set t x')[t2]? = _; rw [List.getElem?_set_ne this]; exact hy, hyc⟩
  · intro t1 t2 x1 x2 h1 h2 hb1 he
    have h1 : (m.all.set t x')[t1]? = some x1 := h1
    have h2 : (m.all.set t x')[t2]? = some x2 := h2
    by_cases e1 : t = t1 <;> by_cases e2 : t = t2
    · omega
    · subst e1
      have : x1 = x' := by simp [hlt] at h1; exact h1.symm
      subst this
      rw [List.getElem?_set_ne e2] at h2
      exact h.uniq t t2 x x2 hx h2 hb (by rw [← he, (hgo hb1).1])
    · subst e2
      have : x2 = x' := by simp [hlt] at h2; exact h2.symm
      subst this
      rw [List.getElem?_set_ne e1] at h1
      exact h.uniq t1 t x1 x h1 hx hb1 (by rw [he, (hgo (by omega)).1])
    · rw [List.getElem?_set_ne e1] at h1
      rw [List.getElem?_set_ne e2] at h2
      exact h.uniq t1 t2 x1 x2 h1 h2 hb1 he

theorem Busy.of_set {m : DM} (h : m.Deep) {t t2 : Nat} {x x' y : Th} {c c' d : ACall} (hx : m.all[t]? = some x) (hb : 0 ≤ x.call) (hc : m.calls[x.call.toNat]? = some c) (hgo : 0 ≤ x'.call → x'.call = x.call)
    (hB : Busy (m.all.set t x') (m.calls.set x.call.toNat c') t2 y d) : (t2 = t ∧ y = x' ∧ d = c') ∨ (t2 ≠ t ∧ Busy m.all m.calls t2 y d) := by
  have hlt : t < m.all.length := (List.getElem?_eq_some_iff.1 hx).1
  have hcl : x.call.toNat < m.calls.length := (List.getElem?_eq_some_iff.1 hc).1
  obtain ⟨hy, hyb, hd⟩ := hB
  by_cases e : t = t2
  · subst e
    have : y = x' := by simp [hlt] at hy; exact hy.symm
    subst this
    rw [hgo hyb] at hd
    have : d = c' := by simp [hcl] at hd; exact hd.symm
    exact .inl ⟨rfl, rfl, this⟩
  · rw [List.getElem?_set_ne e] at hy
    rw [List.getElem?_set_ne (fun e2 => e (h.uniq t t2 x y hx hy hb (by omega)))] at hd
    exact .inr ⟨fun e2 => e e2.symm, hy, hyb, hd⟩

theorem flight_neg {all : List Th} {d : Int} (h : d < 0) : flight all d = [] := by unfold flight; rw [if_neg (by omega)]
theorem flight_at {all : List Th} {x : Th} {d : Int} (h : all[0]? = some x) : flight all d = if 0 ≤ d ∧ x.line = 7 then [x.v] else [] := by unfold flight; rw [h]; rfl
theorem flight_set {all : List Th} {x : Th} {d : Int} (h : 0 < all.length) : flight (all.set 0 x) d = if 0 ≤ d ∧ x.line = 7 then [x.v] else [] := flight_at (by simp [h])
theorem flight_ne {all : List Th} {t : Nat} {x : Th} {d : Int} (h : t ≠ 0) : flight (all.set t x) d = flight all d := by unfold flight; rw [List.getElem?_set_ne h]

/-- The owner of a deque whose bottom is down. -/
theorem Deep.down {m : DM} (h : m.Deep) (hd : 0 ≤ m.down) : ∃ x c, Busy m.all m.calls 0 x c ∧ c.op = 91 ∧ 3 ≤ x.line ∧ x.line ≤ 8 ∧ m.last = x.b - 1 ∧ wd m.words 1 = x.b - 1 ∧ (4 ≤ x.line → x.t ≤ wd m.words 0) ∧ (5 ≤ x.line → x.t ≤ x.b - 1) := by
  obtain ⟨x, c, r1, r2, r3, r4, r5⟩ := h.inv.dn hd
  obtain ⟨d, q1, q2⟩ := h.inv.ths 0 x r1 r2
  rw [r3] at q1; injection q1 with q1; subst q1
  rcases q2 with ⟨o, _⟩ | ⟨o, _, l1, l2, p2, p3, p4, p5⟩ | ⟨o, _⟩
  · omega
  · have := p3 r5
    exact ⟨x, c, ⟨r1, r2, r3⟩, r4, r5, l2, this.2.1, this.2.2.1, fun hl => (p4 hl).2, p5⟩
  · omega

theorem Mode.keep {m : DM} (h : m.Deep) {t : Nat} {x x' : Th} {c c' : ACall} (hx : m.all[t]? = some x) (hb : 0 ≤ x.call) (hc : m.calls[x.call.toNat]? = some c) (hgo : 0 ≤ x'.call → x'.call = x.call) (hm : Mode m.all m.calls (wd m.words 0) m.last)
    (h1 : 0 ≤ x'.call → c'.op = 92 → 3 ≤ x'.line → wd m.words 0 ≤ m.last → x'.t ≠ m.last) (h2 : 0 ≤ x'.call → c'.op = 91 → 5 ≤ x'.line → m.last ≤ wd m.words 0 → (5 ≤ x.line → c.op = 91 → m.last ≤ x.t) → m.last ≤ x'.t) :
    Mode (m.all.set t x') (m.calls.set x.call.toNat c') (wd m.words 0) m.last := by
  rcases hm with ⟨p, q⟩ | ⟨p, q⟩
  · refine .inl ⟨p, fun t2 y d hB ho hl => ?_⟩
    have hyb := hB.2.1
    rcases Busy.of_set h hx hb hc hgo hB with ⟨rfl, rfl, rfl⟩ | ⟨_, hB⟩
    · exact h1 hyb ho hl p
    · exact q t2 y d hB ho hl
  · refine .inr ⟨p, fun y d hB ho hl => ?_⟩
    have hyb := hB.2.1
    rcases Busy.of_set h hx hb hc hgo hB with ⟨e, rfl, rfl⟩ | ⟨_, hB⟩
    · subst e
      exact h2 hyb ho hl p (fun l5 o => q x c ⟨hx, hb, hc⟩ o l5)
    · exact q y d hB ho hl

end DM
end Go.Proofs.Ythifeaigdobonaa
