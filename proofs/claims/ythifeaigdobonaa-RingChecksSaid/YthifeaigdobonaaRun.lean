/- Machine.Run: the run so far, in memory of its own. -/
import Derived.Test.YthifeaigdobonaaRng
import Derived.Test.YthifeaigdobonaaBus
import Derived.Deep.AppendLies
namespace Go.Proofs.Ythifeaigdobonaa
open Go.RowKit Go.Shelf
attribute [local go_sem] Oper.semAt_some

theorem wpListIn_append_lies {F : Fence} {n : Nat} {P : Program} (w : World) {ops : Array Oper} {rest : List Oper} {o : Oper} {a : Act} {Q : Exit → Act → World → Prop}
    (hg : o.guard = none) (s x : Operand) (t : TypeId) (hop : o.op = Op.call { callee := Callee.builtin Builtin.append, args := #[s, x], argTypes := #[t, t] })
    (base : Nat) (e : TypeId) (i : TypeInfo) (z : Value) (size bytes : Nat) (h1 : P.underlying t = some (.slice e)) (h2 : P.info? e = some i) (h3 : i.zero = some z) (h4 : i.size = size) (h5 : i.bytes = bytes) (h6 : z.cells.size = size) (h7 : 0 < size)
    (v : Value) (k : Nat) (xs : List Value) (hs : a.eval s = v) (hown : w.ownsRow base e size v k xs) (ad : Addr) (m c : Nat) (news : List Value) (hx : a.eval x = .slice (some ad) m c) (hn : news.length = m * size)
    (hc : ∀ j u, news[j]? = some u → w.cell? (ad.add j) = some u) (h1c : ∀ u ∈ news, u.oneCell' = true) (hm : 0 < m) (b1 : k + m ≤ maxLen) (b2 : (k + m) * bytes ≤ 140737488355328) (b3 : base ≤ w.heap.size)
    (hK : ∀ g cap w', w'.ownsRow base e size (.slice (some ⟨g, 0, none⟩) (k + m) cap) (k + m) (xs ++ news) → w.grownBy w' v.ownBlock → (v.ownBlock = some g ∨ g = w.heap.size) → g < w'.heap.size → wpListIn F n P ops Q rest (a.put o.dst (.slice (some ⟨g, 0, none⟩) (k + m) cap)) w') :
    wpListIn F n P ops Q (o :: rest) a w := by
  refine wpListIn_plain hg fun K hK' => ?_
  obtain ⟨g, cap, w', hrun, r1, r2, r3, r4⟩ := run_append_lies (P := P) w t o.type base e i z size bytes h1 h2 h3 h4 h5 h6 h7 v k xs hown ad m c news hn hc h1c hm b1 b2 b3 _ rfl
  unfold Oper.wpIn
  refine ⟨?_, ?_⟩
  · simp [Oper.about, hop, resolve, Target.leads, Sem.run_pure]
  · rw [Oper.semAt_plain F _ _ (by rw [hop]; intro c hc'; cases hc')]
    simp [execOp, hop, resolve, invoke, builtin, hs, hx, hrun, Result.andThen]
    exact hK' _ _ (hK g cap w' r1 r2 r3 r4)

/-- All blocks below B, a step that turns nothing below B. -/
theorem Holds.grownBy {W w w' : World} {S : Hp} {B : Nat} {row : Option Nat} (h : Holds W w S) (hg : w.grownBy w' row) (hWB : W.heap.size ≤ B) (hS : ∀ b, 0 < S.dom b → b < B) (hr : ∀ r, row = some r → B ≤ r) : Holds W w' S := by
  refine ⟨hg.os.trans h.os, hg.tape.trans h.tape, hg.output.trans h.output, Nat.le_trans h.size hg.size, h.once, fun b hb => Nat.lt_of_lt_of_le (h.low b hb) hg.size, fun b o hv => ?_, h.up, fun k hk => ?_⟩
  · have hd := S.ok b o hv
    rw [hg.block b (h.low b hd) (fun e => by have := hr b e.symm; have := hS b hd; omega)]
    exact h.get b o hv
  · rw [hg.block k (Nat.lt_of_lt_of_le hk h.size) (fun e => by have := hr k e.symm; omega)]; exact h.old k hk

/-- A row of one's own from B on, beside blocks below B. -/
theorem Holds.row {W w : World} {S : Hp} {B : Nat} {e : TypeId} {size : Nat} {v : Value} {n : Nat} {xs : List Value} (h : Holds W w S) (hWB : W.heap.size ≤ B) (hS : ∀ b, 0 < S.dom b → b < B) (ho : w.ownsRow B e size v n xs) : ∃ S', RowAt e size v n xs S' ∧ Holds W w (S' + S) := by
  obtain ⟨hx, ⟨rfl, rfl⟩ | ⟨g, cap, cur, rfl, hle, hat, h1, h2, h3, h4⟩⟩ := ho
  · exact ⟨emp, ⟨hx, .inl ⟨rfl, rfl, rfl⟩⟩, h.of_eq (Hp.emp_add _).symm⟩
  · have hcur : cur = (xs ++ cur.toList.drop (n * size)).toArray := by
      apply Array.ext'
      simp only [← h4, List.take_append_drop]
    have hlen : (xs ++ cur.toList.drop (n * size)).length = cap * size := by rw [← h4, List.take_append_drop]; simpa using h3
    refine ⟨_, RowAt.mk e size g n cap xs (cur.toList.drop (n * size)) hx h1 h2 hlen, ?_⟩
    rw [← hcur]
    have h0 : S.dom g = 0 := by
      rcases Nat.eq_zero_or_pos (S.dom g) with e | e
      · exact e
      · have := hS _ e; omega
    refine ⟨h.os, h.tape, h.output, h.size, fun b => ?_, fun b hb => ?_, fun b o' hv => ?_, fun b hb => ?_, h.old⟩
    · simp only [Hp.dom_add, pt]
      have := h.once b
      split
      · rename_i e; subst e; omega
      · omega
    · simp only [Hp.dom_add, pt] at hb
      split at hb
      · rename_i e; subst e; exact (Array.getElem?_eq_some_iff.1 hat).1
      · exact h.low b (by omega)
    · rw [Hp.val_add] at hv
      rcases hv with ⟨rfl, rfl⟩ | hv
      · exact hat
      · exact h.get b o' hv
    · simp only [Hp.dom_add, pt] at hb
      split at hb
      · rename_i e; subst e; exact Nat.le_trans hWB hle
      · exact h.up b (by omega)

theorem words_at (W w : World) (bm : Nat) (words : List Int) (log : List Acc) (mv : Int) (S F : Hp) (hn : words.length ≤ 8192) (hm : MemR bm words log mv S) (h : Holds W w (S + F)) :
    Calls Try.prog 59 #[.pointer (some ⟨bm, 0, none⟩)] w fun e w' => ∃ v' S', e = .returned v' ∧ RowAt 82 1 v' words.length (u64s words) S' ∧ Holds W w' (S' + (S + F)) := by
  obtain ⟨ahead, hal, wv, lv, av, Sw, Sl, Sa, hw, hl, ha, rfl⟩ := hm
  have h1 := h.of_eq (show _ = pt bm (.cells #[wv, lv, av, .int .i64 mv] 176 (0, 0)) + (Sw + (Sl + Sa) + F) from by ac_rfl)
  have c0 : w.cell? ⟨bm, 0, none⟩ = some wv := by rw [h1.cell]; rfl
  have HH := Lib.hid h
  have HN := Lib.hid hn
  have HW := Lib.hid hw
  clear h h1 hn hal hl ha hw
  go_enter Try.func59, Try.ntmps59
  go_wp2_with fail
  refine (clone_u64 W w _ words.length (u64s words) Sw (pt bm (.cells #[wv, lv, av, .int .i64 mv] 176 (0, 0)) + (Sl + Sa) + F) (by have := HN.out; omega) (fun u hu => by simp only [u64s, List.mem_map] at hu; obtain ⟨x, _, rfl⟩ := hu; rfl) HW.out (HH.out.of_eq (by ac_rfl))).mono ?_
  rintro e w2 ⟨v', S', rfl, hr', h2⟩
  have H2 := Lib.hid h2
  have HR := Lib.hid hr'
  clear h2 hr'
  go_wp2_with fail
  go_ret
  exact ⟨_, S', rfl, HR.out, H2.out.of_eq (by ac_rfl)⟩

theorem log_at (w : World) (bm : Nat) : Calls Try.prog 60 #[.pointer (some ⟨bm, 0, none⟩), .int .i64 0] w fun e w' =>
    e = .returned (.func (.func 84) #[] #[.pointer (some ⟨w.heap.size, 0, none⟩), .pointer (some ⟨w.heap.size + 1, 0, none⟩)]) ∧
      w' = (w.alloc (.cells #[.pointer (some ⟨bm, 0, none⟩)] 127 (0, 0))).alloc (.cells #[.int .i64 0] 3 (0, 0)) := by
  go_enter Try.func60, Try.ntmps60
  go_wp2_with fail
  go_ret
  exact ⟨rfl, rfl⟩

theorem clone_shift (w : World) : Calls Try.prog 58 #[.slice none 0 0] w fun e w' => w = w' ∧ e = .returned (.slice none 0 0) := by
  have q : ∀ (w : World) (a : Option Addr) (n c n' c' : Nat), (binOp .eql 30 (.slice a n c) (.slice none n' c')).run Try.prog w = .ok (.bool a.isNone) w := fun w a n c n' c' => Lib.run_eql_slice_nil w _ _ a n c n' c' Try.underlying30
  go_enter Try.func58, Try.ntmps58
  go_wp2_with fail
  go_ret
  exact ⟨rfl, rfl⟩


/-- A run as a value, in memory of its own. -/
def RunAt (v : Value) (calls : List ACall) (trace : List Acc) (words : List Int) (S : Hp) : Prop :=
  ∃ cv tv wv Sc St Sw, v = .agg #[cv, tv, .slice none 0 0, wv] ∧ RowAt 66 9 cv calls.length (rows encCall calls) Sc ∧ RowAt 103 7 tv trace.length (rows encAcc trace) St ∧
    RowAt 82 1 wv words.length (u64s words) Sw ∧ S = Sc + (St + Sw)

theorem encCall_one (l : List ACall) : ∀ u ∈ rows encCall l, u.oneCell' = true := by
  intro u hu
  simp only [rows, List.mem_flatMap] at hu
  obtain ⟨x, _, hx⟩ := hu
  simp only [encCall, List.mem_cons, List.not_mem_nil, or_false] at hx
  rcases hx with rfl | rfl | rfl | rfl | rfl | rfl | rfl | rfl | rfl <;> rfl

def RunPost (W : World) (calls : List ACall) (trace : List Acc) (words : List Int) (S : Hp) (e : Ending) (w' : World) : Prop :=
  ∃ v S', e = .returned v ∧ RunAt v calls trace words S' ∧ Holds W w' (S' + S)

def run0 : Obj := .cells #[.slice none 0 0, .slice none 0 0, .slice none 0 0, .slice none 0 0] 33 (0, 0)

/-- Behind the three copies. -/
def RunCut (W : World) (calls : List ACall) (words : List Int) (rb : Nat) (S : Hp) (v : Value) (wx : World) : Prop :=
  ∃ b3 cv wv Sc Sw, v = .pointer (some ⟨b3, 0, none⟩) ∧ RowAt 66 9 cv calls.length (rows encCall calls) Sc ∧ RowAt 82 1 wv words.length (u64s words) Sw ∧
    Holds W wx (pt b3 (.cells #[cv, .slice none 0 0, .slice none 0 0, wv] 33 (0, 0)) + (Sc + (Sw + (pt rb run0 + S))))


theorem KpR.of_grown {b B n g m cap' : Nat} {Wx w1 : World} {o : Obj} {tv : Value} {xs : List Value} {t : Nat} (_hb : b < Wx.heap.size) (h0 : Wx.cell? ⟨b, 1, none⟩ = some tv) (_hB : B ≤ Wx.heap.size) (hbB : b < B) (h2 : Wx.ownsRow B t 7 tv n xs)
    (hgrow : (Wx.alloc o).grownBy w1 tv.ownBlock) (hat : tv.ownBlock = some g ∨ g = Wx.heap.size + 1) (h1 : w1.cell? ⟨b, 1, none⟩ = some tv) :
    KpR b Wx (w1.setCell ⟨b, 1, none⟩ (.slice (some ⟨g, 0, none⟩) m cap')) ∧ KeepsFrom B Wx (w1.setCell ⟨b, 1, none⟩ (.slice (some ⟨g, 0, none⟩) m cap')) := by
  have hsz : Wx.heap.size ≤ (w1.setCell ⟨b, 1, none⟩ (.slice (some ⟨g, 0, none⟩) m cap')).heap.size := by
    have := hgrow.size
    rw [World.size_alloc] at this
    rw [World.size_setCell]; omega
  have hold : ∀ k, k < Wx.heap.size → k ≠ b → some k ≠ tv.ownBlock → (w1.setCell ⟨b, 1, none⟩ (.slice (some ⟨g, 0, none⟩) m cap')).heap[k]? = Wx.heap[k]? := by
    intro k hk hkb hr
    rw [Below.heap_setCell _ _ _ k hkb, hgrow.block k (by rw [World.size_alloc]; omega) hr, Below.heap_alloc Wx o k hk]
  have own : ∀ k, tv.ownBlock = some k → RowIs b Wx k ∧ B ≤ k ∧ ∃ cur, Wx.heap[k]? = some (.cells cur t (0, 0)) := by
    intro k hk
    rcases h2.2 with ⟨rfl, _⟩ | ⟨g2, cap2, cur, rfl, hle, hat2, _⟩
    · cases hk
    · have : g2 = k := by simpa [Value.ownBlock] using hk
      subst this
      exact ⟨⟨_, _, h0⟩, hle, cur, hat2⟩
  refine ⟨⟨hsz, fun k x hk _ hkb hr => ?_, fun k hk => ?_⟩, hsz, fun k x hBk hk hx => ?_⟩
  · rw [hold k (Array.getElem?_eq_some_iff.1 hk).1 hkb (fun e => hr (own k e.symm).1)]; exact hk
  · obtain ⟨n2, c2, h⟩ := hk
    rw [World.cell?_setCell_same' _ _ _ (by rw [h1]; rfl)] at h
    injection h with h
    injection h with h _ _
    injection h with h
    injection h with h _ _
    subst h
    rcases hat with hat | hat
    · exact .inl (own _ hat).1
    · exact .inr (by omega)
  · rw [hold k (Array.getElem?_eq_some_iff.1 hk).1 (by omega) (fun e => by
      obtain ⟨_, _, cur, hc⟩ := own k e.symm
      rw [hk] at hc; cases hc; cases hx)]; exact hk

/-- What the loop over the log holds between two rounds. -/
def LoopI (W : World) (b3 B : Nat) (x0 x3 : Value) (R : Hp) (pre : List (Nat × Acc)) (Wx : World) : Prop :=
  B ≤ Wx.heap.size ∧ ∃ tv, Holds W Wx (pt b3 (.cells #[x0, tv, .slice none 0 0, x3] 33 (0, 0)) + R) ∧ Wx.ownsRow B 103 7 tv pre.length (rows encAcc (pre.map Prod.snd))

theorem own_kept {W W' : World} {row : Option Nat} {base : Nat} {e : TypeId} {size : Nat} {v : Value} {k : Nat} {xs : List Value} (h : W.ownsRow base e size v k xs) (hg : W.grownBy W' row)
    (hrow : ∀ r, row = some r → ∃ o : Obj, W.heap[r]? = some o ∧ o.isCells = false) : W'.ownsRow base e size v k xs := by
  refine h.kept hg ?_
  rcases h.2 with ⟨rfl, _⟩ | ⟨g, cap, cur, rfl, _, hgb, _⟩
  · exact .inl rfl
  · refine .inr (fun e => ?_)
    obtain ⟨o, ho, hc⟩ := hrow g (by rw [← e]; rfl)
    rw [hgb] at ho; cases ho; cases hc

theorem LoopI.own {W : World} {b3 B : Nat} {x0 x3 : Value} {R : Hp} (hWB : W.heap.size ≤ B) (hb : b3 < B) (hR : ∀ b, 0 < R.dom b → b < B) : OwnFrom B (LoopI W b3 B x0 x3 R) := by
  rintro pre A A' row ⟨h0, tv, h1, h2⟩ hg hr
  refine ⟨Nat.le_trans h0 hg.size, tv, h1.grownBy hg (B := B) hWB (fun b hb' => ?_) (fun r e => (hr r e).1), own_kept h2 hg (fun r e => (hr r e).2)⟩
  simp only [Hp.dom_add, pt] at hb'
  split at hb'
  · rename_i e; omega
  · exact hR b (by omega)

theorem LoopI.alloc {W Wx : World} {b3 B : Nat} {x0 x3 : Value} {R : Hp} {pre : List (Nat × Acc)} (h : LoopI W b3 B x0 x3 R pre Wx) (o : Obj) : LoopI W b3 B x0 x3 R pre (Wx.alloc o) := by
  obtain ⟨h0, tv, h1, h2⟩ := h
  exact ⟨by rw [World.size_alloc]; omega, tv, (h1.alloc o).right, h2.alloc o⟩

/-- A round's end. -/
theorem LoopI.round {W Wx w1 : World} {b3 B g cap : Nat} {x0 x3 tv : Value} {R : Hp} {pre : List (Nat × Acc)} {x : Nat × Acc} {o : Obj} (hb : b3 < B) (hB : B ≤ Wx.heap.size) (_hR : ∀ b, 0 < R.dom b → b < B)
    (h1 : Holds W Wx (pt b3 (.cells #[x0, tv, .slice none 0 0, x3] 33 (0, 0)) + R)) (h2 : Wx.ownsRow B 103 7 tv pre.length (rows encAcc (pre.map Prod.snd)))
    (hown : w1.ownsRow B 103 7 (.slice (some ⟨g, 0, none⟩) (pre.length + 1) cap) (pre.length + 1) (rows encAcc (pre.map Prod.snd) ++ encAcc x.2)) (hgrow : (Wx.alloc o).grownBy w1 tv.ownBlock)
    (hat : tv.ownBlock = some g ∨ g = Wx.heap.size + 1) (hw1 : Holds W w1 (pt b3 (.cells #[x0, tv, .slice none 0 0, x3] 33 (0, 0)) + R)) :
    KeepsFrom B Wx (w1.setCell ⟨b3, 1, none⟩ (.slice (some ⟨g, 0, none⟩) (pre.length + 1) cap)) ∧ KpR b3 Wx (w1.setCell ⟨b3, 1, none⟩ (.slice (some ⟨g, 0, none⟩) (pre.length + 1) cap)) ∧
      LoopI W b3 B x0 x3 R (pre ++ [x]) (w1.setCell ⟨b3, 1, none⟩ (.slice (some ⟨g, 0, none⟩) (pre.length + 1) cap)) := by
  obtain ⟨k1, k2⟩ := KpR.of_grown (m := pre.length + 1) (cap' := cap) h1.lt (by rw [h1.cell]; rfl) hB hb h2 hgrow hat (by rw [hw1.cell]; rfl)
  refine ⟨k2, k1, Nat.le_trans hB k2.size, .slice (some ⟨g, 0, none⟩) (pre.length + 1) cap, (hw1.set 1 (.slice (some ⟨g, 0, none⟩) (pre.length + 1) cap)).of_eq (by simp only [List.setIfInBounds_toArray, List.set_cons_zero, List.set_cons_succ]), ?_⟩
  have e1 : (pre ++ [x]).length = pre.length + 1 := by simp
  have e2 : rows encAcc ((pre ++ [x]).map Prod.snd) = rows encAcc (pre.map Prod.snd) ++ encAcc x.2 := by simp [rows]
  rw [e1, e2]
  exact hown.kept ⟨rfl, rfl, rfl, by rw [World.size_setCell]; exact Nat.le_refl _, fun k _ hk => Below.heap_setCell _ _ _ k (fun e => hk (by rw [e]))⟩ (row := some b3) (.inr (fun e => by
    have : g = b3 := by simpa [Value.ownBlock] using e
    rcases hown.2 with ⟨h, _⟩ | ⟨g2, c2, cur, h, hle, _⟩
    · cases h
    · injection h with h; injection h with h; injection h with h; omega))

theorem LoopI.grown {W Wx w1 : World} {b3 B : Nat} {x0 x3 tv : Value} {R : Hp} {o : Obj} {n : Nat} {xs : List Value} (hWB : W.heap.size ≤ B) (hb : b3 < B) (hR : ∀ b, 0 < R.dom b → b < B)
    (h1 : Holds W Wx (pt b3 (.cells #[x0, tv, .slice none 0 0, x3] 33 (0, 0)) + R)) (h2 : Wx.ownsRow B 103 7 tv n xs) (hgrow : (Wx.alloc o).grownBy w1 tv.ownBlock) :
    Holds W w1 (pt b3 (.cells #[x0, tv, .slice none 0 0, x3] 33 (0, 0)) + R) := by
  refine (h1.alloc o).right.grownBy hgrow (B := B) hWB (fun b hb' => ?_) (fun r e => ?_)
  · simp only [Hp.dom_add, pt] at hb'
    split at hb'
    · rename_i e; omega
    · exact hR b (by omega)
  · rcases h2.2 with ⟨rfl, _⟩ | ⟨g2, cap2, cur, rfl, hle, _⟩
    · cases e
    · have : g2 = r := by simpa [Value.ownBlock] using e
      omega

theorem logLies_of {W w : World} {bm b3 : Nat} {words : List Int} {log : List Acc} {mv : Int} {Sm G : Hp} (hm : MemR bm words log mv Sm) (h : Holds W w (Sm + G)) (hb : w.cell? ⟨b3, 1, none⟩ = some (.slice none 0 0)) : LogLies w bm b3 log := by
  obtain ⟨ahead, hal, wv, lv, av, Sw, Sl, Sa, hw, hl, ha, rfl⟩ := hm
  have h1 := h.of_eq (show _ = pt bm (.cells #[wv, lv, av, .int .i64 mv] 176 (0, 0)) + (Sl + (Sw + Sa + G)) from by ac_rfl)
  refine ⟨lv, by rw [h1.cell]; rfl, hb, lt_of_cell hb, ?_⟩
  obtain ⟨_, ⟨rfl, e, _⟩ | ⟨g, cap, rest, rfl, _, _, _, rfl⟩⟩ := hl
  · exact .inl ⟨rfl, List.eq_nil_of_length_eq_zero e⟩
  · exact .inr ⟨g, cap, rest, rfl, h1.right.at⟩

theorem idx_length (log : List Acc) : (idx log).length = log.length := by unfold idx; simp
theorem idx_snd (log : List Acc) : (idx log).map Prod.snd = log := by unfold idx; rw [List.map_snd_zip]; simp

theorem own_set {w : World} {B b i : Nat} {e : TypeId} {size : Nat} {v u : Value} {n : Nat} {xs : List Value} (h : w.ownsRow B e size v n xs) (hb : b < B) : (w.setCell ⟨b, i, none⟩ u).ownsRow B e size v n xs := by
  refine h.kept (row := some b) ⟨rfl, rfl, rfl, by rw [World.size_setCell]; exact Nat.le_refl _, fun k _ hk => Below.heap_setCell _ _ _ k (fun e => hk (by rw [e]))⟩ ?_
  rcases h.2 with ⟨rfl, _⟩ | ⟨g, cap, cur, rfl, hle, _⟩
  · exact .inl rfl
  · refine .inr (fun e => ?_)
    have : g = b := by simpa [Value.ownBlock] using e
    omega

/-- Run's end: the run's parts, each with its own row. -/
theorem run_done {W W5 : World} {B rb b3 : Nat} {x0 x1 x3 : Value} {calls : List ACall} {log : List Acc} {words : List Int} {Sc1 Sw1 G : Hp} (hWB : W.heap.size ≤ B) (hB : ∀ b, 0 < (pt rb (.cells #[x0, x1, .slice none 0 0, x3] 33 (0, 0)) + (pt b3 (.cells #[x0, x1, .slice none 0 0, x3] 33 (0, 0)) + (Sc1 + (Sw1 + G)))).dom b → b < B)
    (hc : RowAt 66 9 x0 calls.length (rows encCall calls) Sc1) (hw : RowAt 82 1 x3 words.length (u64s words) Sw1) (ho : W5.ownsRow B 103 7 x1 log.length (rows encAcc log))
    (h : Holds W W5 (pt rb (.cells #[x0, x1, .slice none 0 0, x3] 33 (0, 0)) + (pt b3 (.cells #[x0, x1, .slice none 0 0, x3] 33 (0, 0)) + (Sc1 + (Sw1 + G))))) :
    RunPost W calls log words G (.returned (.agg #[x0, x1, .slice none 0 0, x3])) W5 := by
  obtain ⟨St, h1, h2⟩ := h.row hWB hB ho
  refine ⟨_, Sc1 + (St + Sw1), rfl, ⟨x0, x1, x3, Sc1, St, Sw1, rfl, hc, h1, hw, rfl⟩, ?_⟩
  exact (h2.of_eq (show _ = Sc1 + (St + Sw1) + G + (pt rb (.cells #[x0, x1, .slice none 0 0, x3] 33 (0, 0)) + pt b3 (.cells #[x0, x1, .slice none 0 0, x3] 33 (0, 0))) from by ac_rfl)).left

end Go.Proofs.Ythifeaigdobonaa
