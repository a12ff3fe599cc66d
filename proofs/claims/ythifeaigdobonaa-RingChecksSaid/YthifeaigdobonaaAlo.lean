/- Whoever is alone ends within seven steps: of the plain machine. -/
import Derived.Test.YthifeaigdobonaaDi
namespace Go.Proofs.Ythifeaigdobonaa
namespace DM

/-- How many steps a call has left at most, if its thread alone makes steps. -/
def leftF (top : Int) (x : Th) (op : Int) : Int :=
  if op = 90 then 5 - x.line
  else if op = 91 then (if x.line ≤ 3 then 7 - x.line else if x.line = 4 then 1 else if x.line = 5 then 3 else if x.line = 6 then 2 else 1)
  else if x.line = 1 then 4 else if top = x.t then 5 - x.line else 9 - x.line

theorem leftF_push {top op : Int} {x : Th} (h : op = 90) : leftF top x op = 5 - x.line := by unfold leftF; rw [if_pos h]
theorem leftF_take {top op : Int} {x : Th} (h : op = 91) : leftF top x op = (if x.line ≤ 3 then 7 - x.line else if x.line = 4 then 1 else if x.line = 5 then 3 else if x.line = 6 then 2 else 1) := by
  unfold leftF; rw [if_neg (by omega), if_pos h]
theorem leftF_steal {top op : Int} {x : Th} (h : op = 92) : leftF top x op = (if x.line = 1 then 4 else if top = x.t then 5 - x.line else 9 - x.line) := by
  unfold leftF; rw [if_neg (by omega), if_neg (by omega)]

/-- Thread t ends within k steps of its own. -/
def Within (m : DM) (t : Nat) (k : Int) : Prop := ∀ x c, m.all[t]? = some x → 0 ≤ x.call → m.calls[x.call.toNat]? = some c → leftF (wd m.words 0) x c.op ≤ k

theorem Within.seven {m : DM} (h : m.Inv) (t : Nat) : Within m t 7 := by
  intro x c hx hb hc
  obtain ⟨d, hd, hp⟩ := h.ths t x hx hb
  rw [hc] at hd; injection hd with hd; subst hd
  rcases hp with ⟨o, _, l1, l2, _⟩ | ⟨o, _, l1, l2, _⟩ | ⟨o, l1, l2, _⟩
  · rw [leftF_push o]; omega
  · rw [leftF_take o]; repeat' split <;> omega
  · rw [leftF_steal o]; repeat' split <;> omega

theorem Within.idle {m : DM} (h : m.Inv) {t : Nat} {x : Th} (hx : m.all[t]? = some x) (hw : Within m t 0) : x.call < 0 := by
  rcases Int.lt_or_le x.call 0 with hb | hb
  · exact hb
  obtain ⟨c, hc, hp⟩ := h.ths t x hx hb
  have := hw x c hx hb hc
  exfalso
  rcases hp with ⟨o, _, l1, l2, _⟩ | ⟨o, _, l1, l2, _⟩ | ⟨o, l1, l2, _⟩
  · rw [leftF_push o] at this; omega
  · rw [leftF_take o] at this; repeat' split at this <;> omega
  · rw [leftF_steal o] at this; repeat' split at this <;> omega

theorem Within.of {m m' : DM} {t : Nat} {x x' : Th} {c c' : ACall} {k : Int} (hlt : t < m.all.length) (hcl : x.call.toNat < m.calls.length) (ha : m'.all = m.all.set t x') (hcs : m'.calls = m.calls.set x.call.toNat c') (hop : c'.op = c.op)
    (hcall : 0 ≤ x'.call → x'.call = x.call) (hleft : 0 ≤ x'.call → leftF (wd m'.words 0) x' c.op ≤ k) : Within m' t k := by
  intro y d hy hyb hd
  rw [ha] at hy
  have : y = x' := by simp [hlt] at hy; exact hy.symm
  subst this
  rw [hcs, hcall hyb] at hd
  have : d = c' := by simp [hcl] at hd; exact hd.symm
  subst this
  rw [hop]
  exact hleft hyb

theorem Within.step {m : DM} (h : m.Inv) {t : Nat} {x : Th} {k : Int} (hx : m.all[t]? = some x) (hb : 0 ≤ x.call) (hw : Within m t (k + 1)) : Within (m.step t) t k := by
  obtain ⟨c, hc, hp⟩ := h.ths t x hx hb
  have hk := hw x c hx hb hc
  have hlt : t < m.all.length := (List.getElem?_eq_some_iff.1 hx).1
  have hcl : x.call.toNat < m.calls.length := (List.getElem?_eq_some_iff.1 hc).1
  have hl := h.lens
  have self : m.calls = m.calls.set x.call.toNat c := by
    obtain ⟨hlt, he⟩ := List.getElem?_eq_some_iff.1 hc
    rw [← he]; exact (List.set_getElem_self hlt).symm
  have no : ¬ (0 : Int) ≤ -1 := by omega
  have e00 : ∀ v, wd (m.words.set 0 v) 0 = v := fun v => by rw [wd_set, if_pos ⟨rfl, by omega⟩]
  rw [show m.step t = (if c.op = 90 then m.push t x c else if c.op = 91 then m.take t x c else if c.op = 92 then m.steal t x c else m) from by unfold DM.step; simp only [th_of hx, call_of hc]]
  rcases hp with ⟨o, rfl, l1, l2, p3⟩ | ⟨o, rfl, l1, l2, p2, p3, p4, p5⟩ | ⟨o, l1, l2, p2⟩
  · rw [if_pos o]
    rw [leftF_push o] at hk
    unfold push
    by_cases q1 : x.line = 1
    · rw [if_pos q1]
      exact Within.of (x := x) (c := c) hlt hcl rfl self rfl (fun _ => rfl) (fun _ => by rw [leftF_push o]; dsimp only; omega)
    rw [if_neg q1]
    by_cases q2 : x.line = 2
    · rw [if_pos q2]
      by_cases q3 : m.room ≤ x.b - wd m.words 0
      · rw [if_pos q3]
        exact Within.of (x := x) (c := c) hlt hcl rfl rfl rfl (fun e => absurd e no) (fun e => absurd e no)
      · rw [if_neg q3]
        exact Within.of (x := x) (c := c) hlt hcl rfl self rfl (fun _ => rfl) (fun _ => by rw [leftF_push o]; dsimp only; omega)
    rw [if_neg q2]
    by_cases q3 : x.line = 3
    · rw [if_pos q3]
      exact Within.of (x := x) (c := c) hlt hcl rfl self rfl (fun _ => rfl) (fun _ => by rw [leftF_push o]; dsimp only; omega)
    · rw [if_neg q3]
      exact Within.of (x := x) (c := c) hlt hcl rfl rfl rfl (fun e => absurd e no) (fun e => absurd e no)
  · rw [if_neg (by omega), if_pos o]
    rw [leftF_take o] at hk
    unfold take
    by_cases q1 : x.line = 1
    · rw [if_pos (by omega)] at hk
      rw [if_pos q1]
      exact Within.of (x := x) (c := c) hlt hcl rfl self rfl (fun _ => rfl) (fun _ => by rw [leftF_take o]; dsimp only; rw [if_pos (by omega)]; omega)
    rw [if_neg q1]
    by_cases q2 : x.line = 2
    · rw [if_pos (by omega)] at hk
      rw [if_pos q2]
      exact Within.of (x := x) (c := c) hlt hcl rfl rfl rfl (fun _ => rfl) (fun _ => by rw [leftF_take o]; dsimp only; rw [if_pos (by omega)]; omega)
    rw [if_neg q2]
    by_cases q3 : x.line = 3
    · rw [if_pos (by omega)] at hk
      rw [if_pos q3]
      by_cases q4 : x.b - 1 < wd m.words 0
      · rw [if_pos q4]
        exact Within.of (x := x) (c := c) hlt hcl rfl rfl rfl (fun _ => rfl) (fun _ => by rw [leftF_take o]; dsimp only; rw [if_neg (by omega), if_pos rfl]; omega)
      · rw [if_neg q4]
        exact Within.of (x := x) (c := c) hlt hcl rfl self rfl (fun _ => rfl) (fun _ => by rw [leftF_take o]; dsimp only; rw [if_neg (by omega), if_neg (by omega), if_pos rfl]; omega)
    rw [if_neg (by omega)] at hk
    rw [if_neg q3]
    by_cases q4 : x.line = 4
    · rw [if_pos q4]
      exact Within.of (x := x) (c := c) hlt hcl rfl rfl rfl (fun e => absurd e no) (fun e => absurd e no)
    rw [if_neg q4] at hk
    rw [if_neg q4]
    by_cases q5 : x.line = 5
    · rw [if_pos q5] at hk
      rw [if_pos q5]
      by_cases q6 : x.t < x.b - 1
      · rw [if_pos q6]
        exact Within.of (x := x) (c := c) hlt hcl rfl rfl rfl (fun e => absurd e no) (fun e => absurd e no)
      · rw [if_neg q6]
        exact Within.of (x := x) (c := c) hlt hcl rfl self rfl (fun _ => rfl) (fun _ => by rw [leftF_take o]; dsimp only; rw [if_neg (by omega), if_neg (by omega), if_neg (by omega), if_pos rfl]; omega)
    rw [if_neg q5] at hk
    rw [if_neg q5]
    by_cases q6 : x.line = 6
    · rw [if_pos q6] at hk
      rw [if_pos q6]
      by_cases q7 : wd m.words 0 = x.t
      · rw [if_pos q7]
        exact Within.of (x := x) (c := c) hlt hcl rfl self rfl (fun _ => rfl) (fun _ => by rw [leftF_take o]; dsimp only; rw [if_neg (by omega), if_neg (by omega), if_neg (by omega), if_neg (by omega)]; omega)
      · rw [if_neg q7]
        exact Within.of (x := x) (c := c) hlt hcl rfl rfl rfl (fun _ => rfl) (fun _ => by rw [leftF_take o]; dsimp only; rw [if_neg (by omega), if_neg (by omega), if_neg (by omega), if_neg (by omega)]; omega)
    rw [if_neg q6]
    by_cases q7 : x.line = 7
    · rw [if_pos q7]
      exact Within.of (x := x) (c := c) hlt hcl rfl rfl rfl (fun e => absurd e no) (fun e => absurd e no)
    · rw [if_neg q7]
      exact Within.of (x := x) (c := c) hlt hcl rfl rfl rfl (fun e => absurd e no) (fun e => absurd e no)
  · rw [if_neg (by omega), if_neg (by omega), if_pos o]
    rw [leftF_steal o] at hk
    unfold steal
    by_cases q1 : x.line = 1
    · rw [if_pos q1] at hk
      rw [if_pos q1]
      exact Within.of (x := x) (c := c) hlt hcl rfl self rfl (fun _ => rfl) (fun _ => by rw [leftF_steal o]; show (if (2 : Int) = 1 then 4 else if wd m.words 0 = wd m.words 0 then 5 - (2 : Int) else 9 - (2 : Int)) ≤ k; rw [if_neg (by omega), if_pos rfl]; omega)
    rw [if_neg q1] at hk
    rw [if_neg q1]
    by_cases q2 : x.line = 2
    · rw [if_pos q2]
      by_cases q3 : wd m.words 1 ≤ x.t
      · rw [if_pos q3]
        exact Within.of (x := x) (c := c) hlt hcl rfl rfl rfl (fun e => absurd e no) (fun e => absurd e no)
      · rw [if_neg q3]
        refine Within.of (x := x) (c := c) hlt hcl rfl self rfl (fun _ => rfl) (fun _ => ?_)
        rw [leftF_steal o]
        show (if (3 : Int) = 1 then 4 else if wd m.words 0 = x.t then 5 - (3 : Int) else 9 - (3 : Int)) ≤ k
        rw [if_neg (by omega)]
        split at hk <;> rename_i q4
        · rw [if_pos q4]; omega
        · rw [if_neg q4]; omega
    rw [if_neg q2]
    by_cases q3 : x.line = 3
    · rw [if_pos q3]
      refine Within.of (x := x) (c := c) hlt hcl rfl self rfl (fun _ => rfl) (fun _ => ?_)
      rw [leftF_steal o]
      show (if (4 : Int) = 1 then 4 else if wd m.words 0 = x.t then 5 - (4 : Int) else 9 - (4 : Int)) ≤ k
      rw [if_neg (by omega)]
      split at hk <;> rename_i q4
      · rw [if_pos q4]; omega
      · rw [if_neg q4]; omega
    · rw [if_neg q3]
      by_cases q4 : wd m.words 0 = x.t
      · rw [if_pos q4]
        exact Within.of (x := x) (c := c) hlt hcl rfl rfl rfl (fun e => absurd e no) (fun e => absurd e no)
      · rw [if_neg q4]
        rw [if_neg q4] at hk
        exact Within.of (x := x) (c := c) hlt hcl rfl self rfl (fun _ => rfl) (fun _ => by rw [leftF_steal o]; dsimp only; rw [if_pos rfl]; omega)

/-- A script. -/
def runs (m : DM) (l : List Mv) : DM := l.foldl (fun m v => (m.move v).1) m
theorem runs_snoc (m : DM) (l : List Mv) (v : Mv) : m.runs (l ++ [v]) = ((m.runs l).move v).1 := by simp [runs]
theorem runs_append (m : DM) (l k : List Mv) : m.runs (l ++ k) = (m.runs l).runs k := by simp [runs]
theorem runs_take (m : DM) (l : List Mv) {k : Nat} {v : Mv} (h : l[k]? = some v) : m.runs (l.take (k + 1)) = ((m.runs (l.take k)).move v).1 := by
  rw [List.take_add_one, h]; exact runs_snoc _ _ _

theorem Inv.runs {m : DM} (h : m.Inv) : ∀ l : List Mv, (∀ v ∈ l, I64 v.arg) → Inv (m.runs l) := by
  intro l
  induction l generalizing m with
  | nil => intro _; exact h
  | cons v l ih => intro hl; exact ih (h.moved v (hl v (by simp))) (fun u hu => hl u (by simp [hu]))

theorem move_moves (m : DM) (v : Mv) : (m.move v).1.moves = if 65536 ≤ m.moves then m.moves else m.moves + 1 := by
  unfold move; split <;> rfl
theorem runs_moves {m : DM} (l : List Mv) : m.moves + l.length ≤ 65536 → (m.runs l).moves = m.moves + l.length := by
  induction l generalizing m with
  | nil => intro _; simp [DM.runs]
  | cons v l ih =>
    intro hl
    have hl : m.moves + ((l.length + 1 : Nat) : Int) ≤ 65536 := by simpa using hl
    have e := move_moves m v
    rw [if_neg (by omega)] at e
    have := ih (m := (m.move v).1) (by rw [e]; omega)
    rw [show m.runs (v :: l) = (m.move v).1.runs l from rfl, this, e]
    simp only [List.length_cons]; omega
def AllLen (n : Nat) (m : DM) : Prop := m.all.length = n
theorem ite_len {n : Nat} {c : Prop} [Decidable c] {a b : DM} (ha : AllLen n a) (hb : AllLen n b) : AllLen n (if c then a else b) := by split <;> assumption
theorem step_len (m : DM) (t : Nat) : (m.step t).all.length = m.all.length := by
  show AllLen m.all.length (m.step t)
  unfold step push take steal
  dsimp only
  repeat' (refine ite_len ?_ ?_)
  all_goals simp [AllLen, dload, dstore, dswap, setTh, point, fin]
theorem move_len (m : DM) (v : Mv) : (m.move v).1.all.length = m.all.length := by
  unfold move
  split
  · rfl
  · show (m.move0 v).1.all.length = _
    unfold move0
    repeat' split
    all_goals first | rfl | exact step_len _ _ | simp [begins]
theorem runs_len (m : DM) (l : List Mv) : (m.runs l).all.length = m.all.length := by
  induction l generalizing m with
  | nil => rfl
  | cons v l ih => rw [show m.runs (v :: l) = (m.move v).1.runs l from rfl, ih, move_len]

theorem Within.moved {m : DM} (h : m.Inv) (hmv : m.moves < 65536) {t : Nat} {k a d : Int} (ht : t < m.all.length) (hw : Within m t (k + 1)) : Within (m.move ⟨t, 0, a, d⟩).1 t k := by
  have hx := List.getElem?_eq_getElem ht
  unfold move
  rw [if_neg (by omega)]
  show Within { (m.move0 _).1 with moves := _ } t k
  have key : Within (m.move0 ⟨t, 0, a, d⟩).1 t k := by
    unfold move0
    dsimp only
    rw [if_neg (by omega), if_pos rfl, Int.toNat_natCast, th_of hx]
    split
    · intro x c hx' hb _
      rw [hx] at hx'; injection hx' with hx'; subst hx'; omega
    · exact Within.step h hx (by omega) hw
  exact key

theorem Within.turns {m : DM} (h : m.Inv) {t : Nat} {a d : Int} (ha : I64 a) (ht : t < m.all.length) : ∀ n : Nat, ∀ k : Int, m.moves + n ≤ 65536 → Within m t (k + n) → Within (m.runs (List.replicate n ⟨t, 0, a, d⟩)) t k := by
  intro n
  induction n generalizing m with
  | zero => intro k _ hw; simpa [DM.runs] using hw
  | succ n ih =>
    intro k hm hw
    have hmv : m.moves < 65536 := by omega
    have e := move_moves m ⟨t, 0, a, d⟩
    rw [if_neg (by omega)] at e
    refine ih (h.moved _ ha) (by rw [move_len]; exact ht) k (by rw [e]; omega) ?_
    exact Within.moved h hmv ht (by rw [show k + (n : Int) + 1 = k + ((n + 1 : Nat) : Int) from by omega]; exact hw)

/-- The law: seven steps of one's own end a call. -/
theorem alone {m : DM} (h : m.Inv) {t : Nat} {a d : Int} (ha : I64 a) (ht : t < m.all.length) (hm : m.moves + 7 ≤ 65536) : ((m.runs (List.replicate 7 ⟨t, 0, a, d⟩)).th t).call < 0 := by
  have hi := h.runs (List.replicate 7 ⟨t, 0, a, d⟩) (fun v hv => by rw [List.eq_of_mem_replicate hv]; exact ha)
  have ht' : t < (m.runs (List.replicate 7 ⟨t, 0, a, d⟩)).all.length := by rw [runs_len]; exact ht
  have hx := List.getElem?_eq_getElem ht'
  rw [th_of hx]
  exact Within.idle hi hx (Within.turns h ha ht 7 0 hm (Within.seven h t))

end DM
end Go.Proofs.Ythifeaigdobonaa
