/- The reference's machine of the deque: where it lies; its load, store, swap, point and end. The reference's machine of the deque: point and end. -/
import Derived.Test.YthifeaigdobonaaQui
import Derived.Test.YthifeaigdobonaaApn
import Derived.Test.YthifeaigdobonaaMat
import Derived.IntWalk
import Derived.StillTailTactics
namespace Go.Proofs.Ythifeaigdobonaa
open Go.RowKit

def encTh (x : Th) : List Value := [.int .i64 x.call, .int .i64 x.line, .int .i64 x.b, .int .i64 x.t, .int .i64 x.v]
theorem encTh_len (x : Th) : (encTh x).length = 5 := rfl

/-- Where the reference's machine lies: its block, its threads' row. -/
structure RSpot where
  br : Nat
  ga : Nat
  cap : Nat
  rest : List Value

def refO (p : RSpot) (n : Nat) (room : Int) (wv cv tv : Value) (moves down last : Int) : Obj :=
  .cells #[.int .i64 (n : Int), .int .i64 room, wv, .slice (some ⟨p.ga, 0, none⟩) n p.cap, cv, tv, .int .i64 moves, .int .i64 down, .int .i64 last] 54 (0, 0)

def RefAt (p : RSpot) (m : DM) (S : Hp) : Prop :=
  ∃ wv cv tv Sw Sc St, RowAt 3 1 wv m.words.length (ints m.words) Sw ∧ RowAt 66 9 cv m.calls.length (rows encCall m.calls) Sc ∧ RowAt 103 7 tv m.trace.length (rows encAcc m.trace) St ∧
    S = pt p.br (refO p m.all.length m.room wv cv tv m.moves m.down m.last) + (pt p.ga (.cells (arr encTh m.all p.rest) 50 (0, 0)) + (Sw + (Sc + St)))

def RfPost (W : World) (p : RSpot) (m : DM) (F : Hp) (r : Value) (e : Ending) (w' : World) : Prop := e = .returned r ∧ ∃ S', RefAt p m S' ∧ Holds W w' (S' + F)
def rptr (p : RSpot) : Value := .pointer (some ⟨p.br, 0, none⟩)

/-- What the walks read. -/
theorem RefAt.cells {W w : World} {p : RSpot} {m : DM} {S F : Hp} (hS : RefAt p m S) (h : Holds W w (S + F)) :
    ∃ wa wc ca cc ta tc, w.cell? ⟨p.br, 0, none⟩ = some (.int .i64 (m.all.length : Int)) ∧ w.cell? ⟨p.br, 1, none⟩ = some (.int .i64 m.room) ∧ w.cell? ⟨p.br, 2, none⟩ = some (.slice wa m.words.length wc) ∧
      w.cell? ⟨p.br, 3, none⟩ = some (.slice (some ⟨p.ga, 0, none⟩) m.all.length p.cap) ∧ w.cell? ⟨p.br, 4, none⟩ = some (.slice ca m.calls.length cc) ∧ w.cell? ⟨p.br, 5, none⟩ = some (.slice ta m.trace.length tc) ∧
      w.cell? ⟨p.br, 6, none⟩ = some (.int .i64 m.moves) ∧ w.cell? ⟨p.br, 7, none⟩ = some (.int .i64 m.down) ∧ w.cell? ⟨p.br, 8, none⟩ = some (.int .i64 m.last) ∧ (∀ i, w.frozen? ⟨p.br, i, none⟩ = false) ∧ p.br < w.heap.size := by
  obtain ⟨wv, cv, tv, Sw, Sc, St, q1, q2, q3, rfl⟩ := hS
  obtain ⟨wa, wc, rfl⟩ := q1.form
  obtain ⟨ca, cc, rfl⟩ := q2.form
  obtain ⟨ta, tc, rfl⟩ := q3.form
  have h1 := h.of_eq (Hp.add_assoc _ _ _)
  unfold refO at h1
  refine ⟨wa, wc, ca, cc, ta, tc, ?_, ?_, ?_, ?_, ?_, ?_, ?_, ?_, ?_, fun i => h1.free i, h1.lt⟩ <;> (rw [h1.cell]; rfl)

/-- The cells of a thread. -/
theorem RefAt.th {W w : World} {p : RSpot} {m : DM} {S F : Hp} (hS : RefAt p m S) (h : Holds W w (S + F)) {t : Nat} {x : Th} (hx : m.all[t]? = some x) :
    (∀ j, j < 5 → w.cell? ⟨p.ga, t * 5 + j, none⟩ = (encTh x)[j]?) ∧ (∀ i, w.frozen? ⟨p.ga, i, none⟩ = false) ∧ p.ga < w.heap.size ∧ p.ga ≠ p.br ∧
      ∀ (j : Nat) (v : Value) (y : Th), j < 5 → (encTh x).set j v = encTh y → ∃ S', RefAt p (m.setTh t y) S' ∧ Holds W (w.setCell ⟨p.ga, t * 5 + j, none⟩ v) (S' + F) := by
  obtain ⟨wv, cv, tv, Sw, Sc, St, q1, q2, q3, rfl⟩ := hS
  have h1 := h.of_eq (show _ = pt p.ga (.cells (arr encTh m.all p.rest) 50 (0, 0)) + (pt p.br (refO p m.all.length m.room wv cv tv m.moves m.down m.last) + (Sw + (Sc + St) + F)) from by ac_rfl)
  refine ⟨fun j hj => by rw [h1.cell]; exact arr_get encTh_len hx hj, fun i => h1.free i, h1.lt, h1.ne, fun j v y hj he => ?_⟩
  have h2 := h1.set (t * 5 + j) v
  rw [arr_set encTh_len hx hj he] at h2
  refine ⟨_, ⟨wv, cv, tv, Sw, Sc, St, q1, q2, q3, rfl⟩, h2.of_eq ?_⟩
  have hl : (m.setTh t y).all.length = m.all.length := by show (m.all.set t y).length = _; simp
  rw [hl]
  show _ = pt p.br (refO p m.all.length m.room wv cv tv m.moves m.down m.last) + (pt p.ga (.cells (arr encTh (m.all.set t y) p.rest) 50 (0, 0)) + (Sw + (Sc + St))) + F
  ac_rfl

/-- A word of it. -/
theorem RefAt.word {W w : World} {p : RSpot} {m : DM} {S F : Hp} (hS : RefAt p m S) (h : Holds W w (S + F)) {i : Nat} (hi : i < m.words.length) :
    ∃ g, (∀ A n c, w.cell? ⟨p.br, 2, none⟩ = some (.slice A n c) → A = some ⟨g, 0, none⟩) ∧ w.cell? ⟨g, i, none⟩ = some (.int .i64 (wd m.words i)) ∧ w.frozen? ⟨g, i, none⟩ = false ∧
      ∀ v, ∃ S', RefAt p { m with words := m.words.set i v } S' ∧ Holds W (w.setCell ⟨g, i, none⟩ (.int .i64 v)) (S' + F) := by
  obtain ⟨wv, cv, tv, Sw, Sc, St, q1, q2, q3, rfl⟩ := hS
  obtain ⟨wa, wc, rfl⟩ := q1.form
  have h0 := h.of_eq (Hp.add_assoc _ _ _)
  obtain ⟨g, rest, rfl, _, rfl, hset⟩ := int_row q1 (by omega)
  have h1 := h.of_eq (show _ = pt g (.cells (ints m.words ++ rest).toArray 3 (0, 0)) + (pt p.br (refO p m.all.length m.room (.slice (some ⟨g, 0, none⟩) m.words.length wc) cv tv m.moves m.down m.last) + (pt p.ga (.cells (arr encTh m.all p.rest) 50 (0, 0)) + ((Sc + St) + F))) from by ac_rfl)
  refine ⟨g, fun A n c hA => ?_, ?_, h1.free i, fun v => ?_⟩
  · unfold refO at h0
    rw [h0.cell] at hA
    injection hA with hA
    injection hA with hA _ _
    exact hA.symm
  · rw [h1.cell]
    simp [ints, List.getElem?_append, hi, wd]
  · have h2 := h1.set i (.int .i64 v)
    rw [int_set hi] at h2
    have hl : (m.words.set i v).length = m.words.length := by simp
    refine ⟨_, ⟨.slice (some ⟨g, 0, none⟩) m.words.length wc, cv, tv, _, Sc, St, by show RowAt _ 1 _ (m.words.set i v).length (ints (m.words.set i v)) _; rw [hl]; exact hset _ hl, q2, q3, rfl⟩, h2.of_eq ?_⟩
    show _ = pt p.br (refO p m.all.length m.room (.slice (some ⟨g, 0, none⟩) m.words.length wc) cv tv m.moves m.down m.last) + _ + F
    ac_rfl

/-- The trace's row taken out, as an append wants it. -/
theorem RefAt.trace {p : RSpot} {m : DM} {S : Hp} (hS : RefAt p m S) : ∃ tv St G, RowAt 103 7 tv m.trace.length (rows encAcc m.trace) St ∧ (∀ {W w F}, Holds W w (S + F) → Holds W w (St + (G + F)) ∧ w.cell? ⟨p.br, 5, none⟩ = some tv) ∧
    ∀ (a : Acc) (tv' : Value) (St' : Hp), RowAt 103 7 tv' (m.trace.length + 1) (rows encAcc m.trace ++ encAcc a) St' → ∀ {W w F}, Holds W w (St' + (G + F)) →
      w.cell? ⟨p.br, 5, none⟩ = some tv ∧ w.frozen? ⟨p.br, 5, none⟩ = false ∧ ∃ S', RefAt p { m with trace := m.trace ++ [a] } S' ∧ Holds W (w.setCell ⟨p.br, 5, none⟩ tv') (S' + F) := by
  obtain ⟨wv, cv, tv, Sw, Sc, St, q1, q2, q3, rfl⟩ := hS
  refine ⟨tv, St, pt p.br (refO p m.all.length m.room wv cv tv m.moves m.down m.last) + (pt p.ga (.cells (arr encTh m.all p.rest) 50 (0, 0)) + (Sw + Sc)), q3, fun {W w F} h => ⟨h.of_eq (by ac_rfl), ?_⟩, fun a tv' St' hr {W w F} h => ?_⟩
  · have h1 := h.of_eq (Hp.add_assoc _ _ _)
    unfold refO at h1
    rw [h1.cell]; rfl
  · have h1 := h.of_eq (show _ = pt p.br (refO p m.all.length m.room wv cv tv m.moves m.down m.last) + (St' + (pt p.ga (.cells (arr encTh m.all p.rest) 50 (0, 0)) + (Sw + Sc)) + F) from by ac_rfl)
    unfold refO at h1
    refine ⟨by rw [h1.cell]; rfl, h1.free 5, _, ⟨wv, cv, tv', Sw, Sc, St', q1, q2, ?_, rfl⟩, (h1.set 5 tv').of_eq ?_⟩
    · have e1 : (m.trace ++ [a]).length = m.trace.length + 1 := by simp
      have e2 : rows encAcc (m.trace ++ [a]) = rows encAcc m.trace ++ encAcc a := by simp [rows]
      rw [e1, e2]; exact hr
    · unfold refO
      simp only [List.setIfInBounds_toArray, List.set_cons_zero, List.set_cons_succ]
      ac_rfl

set_option maxHeartbeats 1000000 in
theorem ref_load (W w : World) (p : RSpot) (m : DM) (S F : Hp) (t : Nat) (addr : Int) (g0 : 0 ≤ addr) (g1 : addr < m.words.length) (hb : m.trace.length < 1048576) (hS : RefAt p m S) (h : Holds W w (S + F)) :
    Calls Try.prog 104 #[rptr p, .int .i64 (t : Int), .int .i64 addr] w (RfPost W p (m.dload t addr) F (.int .i64 (wd m.words addr.toNat))) := by
  obtain ⟨wa, wc, ca, cc, ta, tc, c0, c1, c2, c3, c4, c5, c6, c7, c8, fz, hlt⟩ := hS.cells h
  obtain ⟨g, hg, cw, fw, _⟩ := hS.word h (i := addr.toNat) (by omega)
  obtain rfl := hg _ _ _ c2
  obtain ⟨tv, St, G, hr, hin, hout⟩ := hS.trace
  obtain ⟨h1, hc5⟩ := hin h
  obtain rfl : tv = .slice ta m.trace.length tc := by rw [c5] at hc5; injection hc5 with hc5; exact hc5.symm
  obtain ⟨i0, hi, hz0, hz1, hz2⟩ := info_parts infoAcc
  have H1 := Lib.hid h1
  have HO := Lib.hid @hout
  have HR := Lib.hid hr
  clear c0 c1 c3 c4 c7 c8 fz hS h h1 hr hout hin hc5 hg
  unfold rptr
  go_enter Try.func104, Try.ntmps104
  go_wp2_with fail
  have HB : Hid (Holds W (w.alloc (.cells (encAcc ⟨m.moves, t, 1, addr, 0, 0, un (wd m.words addr.toNat)⟩).toArray 103 (0, 0))).drew _) := (H1.out.new w.heap.size rfl (.cells (encAcc ⟨m.moves, t, 1, addr, 0, 0, un (wd m.words addr.toNat)⟩).toArray 103 (0, 0))).drew
  go_region_law (refine step_append_one (W := W) (F := G + F) rfl (.tmp 19) (.tmp 29) 29 rfl 103 i0 _ 7 56 Try.underlying29 hi hz0 hz1 hz2 rfl (by decide) (.slice ta m.trace.length tc) m.trace.length (rows encAcc m.trace) St rfl HR.out w.heap.size 1 103 (encAcc ⟨m.moves, t, 1, addr, 0, 0, un (wd m.words addr.toNat)⟩) rfl rfl (by simp [encAcc, Value.oneCell']) (by unfold maxLen; omega) (by omega) HB.out ?_; intro g2 cap w2 S2 r1 r2; have k := HO.out ⟨m.moves, t, 1, addr, 0, 0, un (wd m.words addr.toNat)⟩ _ S2 r1 r2; have k1 := k.1; have k2 := k.2.1; have K3 := Lib.hid k.2.2; clear k r1 r2)
  all_goals
    go_wp2_with fail
    go_ret
    exact ⟨rfl, K3.out⟩

/-- What the append of an access asks, of whatever world the machine lies in. -/
theorem RefAt.ready {W w : World} {p : RSpot} {m : DM} {S F : Hp} (hS : RefAt p m S) (h : Holds W w (S + F)) :
    ∃ ta tc St G, w.cell? ⟨p.br, 5, none⟩ = some (.slice ta m.trace.length tc) ∧ w.cell? ⟨p.br, 6, none⟩ = some (.int .i64 m.moves) ∧ RowAt 103 7 (.slice ta m.trace.length tc) m.trace.length (rows encAcc m.trace) St ∧ Holds W w (St + (G + F)) ∧ p.br < w.heap.size ∧
      ∀ (a : Acc) (tv' : Value) (St' : Hp), RowAt 103 7 tv' (m.trace.length + 1) (rows encAcc m.trace ++ encAcc a) St' → ∀ {W w F}, Holds W w (St' + (G + F)) →
        w.cell? ⟨p.br, 5, none⟩ = some (.slice ta m.trace.length tc) ∧ w.frozen? ⟨p.br, 5, none⟩ = false ∧ ∃ S', RefAt p { m with trace := m.trace ++ [a] } S' ∧ Holds W (w.setCell ⟨p.br, 5, none⟩ tv') (S' + F) := by
  obtain ⟨wa, wc, ca, cc, ta, tc, c0, c1, c2, c3, c4, c5, c6, c7, c8, fz, hlt⟩ := hS.cells h
  obtain ⟨tv, St, G, hr, hin, hout⟩ := hS.trace
  obtain ⟨h1, hc5⟩ := hin h
  obtain rfl : tv = .slice ta m.trace.length tc := by rw [c5] at hc5; injection hc5 with hc5; exact hc5.symm
  exact ⟨ta, tc, St, G, c5, c6, hr, h1, hlt, @hout⟩

set_option maxHeartbeats 1000000 in
theorem ref_store (W w : World) (p : RSpot) (m : DM) (S F : Hp) (t : Nat) (addr v : Int) (g0 : 0 ≤ addr) (g1 : addr < m.words.length) (hb : m.trace.length < 1048576) (hS : RefAt p m S) (h : Holds W w (S + F)) :
    Calls Try.prog 107 #[rptr p, .int .i64 (t : Int), .int .i64 addr, .int .i64 v] w (RfPost W p (m.dstore t addr v) F (.tuple #[])) := by
  obtain ⟨wa, wc, ca, cc, ta0, tc0, c0, c1, c2, c3, c4, -, -, c7, c8, fz, -⟩ := hS.cells h
  obtain ⟨g, hg, cw, fw, hset⟩ := hS.word h (i := addr.toNat) (by omega)
  obtain rfl := hg _ _ _ c2
  obtain ⟨S1, hS1, h1⟩ := hset v
  obtain ⟨m1, hm1⟩ : ∃ m1 : DM, { m with words := m.words.set addr.toNat v } = m1 := ⟨_, rfl⟩
  rw [hm1] at hS1
  obtain ⟨ta, tc, St, G, c5, c6, hr, h2, hlt, hout⟩ := hS1.ready h1
  have e1 : m1.trace = m.trace := by rw [← hm1]
  have e2 : m1.moves = m.moves := by rw [← hm1]
  have hb1 : m1.trace.length < 1048576 := by rw [e1]; exact hb
  have hfin : { m1 with trace := m1.trace ++ [⟨m1.moves, t, 2, addr, 0, un v, 0⟩] } = m.dstore t addr v := by rw [← hm1]; rfl
  obtain ⟨i0, hi, hz0, hz1, hz2⟩ := info_parts infoAcc
  have H1 := Lib.hid h2
  have HO := Lib.hid @hout
  have HR := Lib.hid hr
  have HF := Lib.hid hfin
  clear c0 c1 c3 c4 c7 c8 fz hS h hr hout hg hset hS1 h1 h2 hm1 e1 e2 hfin
  unfold rptr
  go_enter Try.func107, Try.ntmps107
  go_wp2_with fail
  generalize w.setCell ⟨g, addr.toNat, none⟩ (.int .i64 v) = w1 at *
  have HB : Hid (Holds W (w1.alloc (.cells (encAcc ⟨m1.moves, t, 2, addr, 0, un v, 0⟩).toArray 103 (0, 0))).drew _) := (H1.out.new w1.heap.size rfl (.cells (encAcc ⟨m1.moves, t, 2, addr, 0, un v, 0⟩).toArray 103 (0, 0))).drew
  go_region_law (refine step_append_one (W := W) (F := G + F) rfl (.tmp 19) (.tmp 29) 29 rfl 103 i0 _ 7 56 Try.underlying29 hi hz0 hz1 hz2 rfl (by decide) (.slice ta m1.trace.length tc) m1.trace.length (rows encAcc m1.trace) St rfl HR.out w1.heap.size 1 103 (encAcc ⟨m1.moves, t, 2, addr, 0, un v, 0⟩) rfl rfl (by simp [encAcc, Value.oneCell']) (by unfold maxLen; omega) (by omega) HB.out ?_; intro g2 cap w2 S2 r1 r2; have k := HO.out ⟨m1.moves, t, 2, addr, 0, un v, 0⟩ _ S2 r1 r2; have k1 := k.1; have k2 := k.2.1; have K3 := Lib.hid k.2.2; clear k r1 r2)
  all_goals
    go_wp2_with fail
    go_end0
    rw [← HF.out]
    exact ⟨rfl, K3.out⟩

set_option maxHeartbeats 1000000 in
theorem ref_swap_yes (W w : World) (p : RSpot) (m : DM) (S F : Hp) (t : Nat) (old : Int) (g0 : 0 ≤ old) (g1 : old ≤ 1000000) (hl : 0 < m.words.length) (ho : wd m.words 0 = old) (hb : m.trace.length < 1048576) (hS : RefAt p m S) (h : Holds W w (S + F)) :
    Calls Try.prog 108 #[rptr p, .int .i64 (t : Int), .int .i64 old] w (RfPost W p (m.dswap t old) F (.bool true)) := by
  obtain ⟨wa, wc, ca, cc, ta0, tc0, c0, c1, c2, c3, c4, -, -, c7, c8, fz, -⟩ := hS.cells h
  obtain ⟨g, hg, cw, fw, hset⟩ := hS.word h (i := 0) hl
  obtain rfl := hg _ _ _ c2
  obtain ⟨S1, hS1, h1⟩ := hset (old + 1)
  obtain ⟨m1, hm1⟩ : ∃ m1 : DM, { m with words := m.words.set 0 (old + 1) } = m1 := ⟨_, rfl⟩
  rw [hm1] at hS1
  obtain ⟨ta, tc, St, G, c5, c6, hr, h2, hlt, hout⟩ := hS1.ready h1
  have e1 : m1.trace = m.trace := by rw [← hm1]
  have hb1 : m1.trace.length < 1048576 := by rw [e1]; exact hb
  have hfin : { m1 with trace := m1.trace ++ [⟨m1.moves, t, 3, 0, un old, un (old + 1), un old⟩] } = m.dswap t old := by
    rw [← hm1]; unfold DM.dswap; rw [show swp m.words 0 old (old + 1) = m.words.set 0 (old + 1) from by unfold swp; rw [if_pos ho], ho]
  rw [ho] at cw
  have hl2 : (0 : Int) < (m.words.length : Int) := by omega
  obtain ⟨i0, hi, hz0, hz1, hz2⟩ := info_parts infoAcc
  have H1 := Lib.hid h2
  have HO := Lib.hid @hout
  have HR := Lib.hid hr
  have HF := Lib.hid hfin
  clear c0 c1 c3 c4 c7 c8 fz hS h hr hout hg hset hS1 h1 h2 hm1 e1 hfin ho
  have HN : Hid (m1.trace.length + 1 ≤ maxLen ∧ (m1.trace.length + 1) * 56 ≤ 140737488355328) := ⟨by unfold maxLen; omega, by omega⟩
  have HWR := Lib.hid (IntWalk.i64_in (old + 1) (by omega))
  unfold rptr
  go_enter Try.func108, Try.ntmps108
  go_wp2_with fail
  generalize w.setCell ⟨g, 0, none⟩ (.int .i64 (old + 1)) = w1 at *
  have HB : Hid (Holds W (w1.alloc (.cells (encAcc ⟨m1.moves, t, 3, 0, un old, un (old + 1), un old⟩).toArray 103 (0, 0))).drew _) := (H1.out.new w1.heap.size rfl (.cells (encAcc ⟨m1.moves, t, 3, 0, un old, un (old + 1), un old⟩).toArray 103 (0, 0))).drew
  have hwr := HWR.out
  go_region_law (refine step_append_one (W := W) (F := G + F) rfl (.tmp 28) (.tmp 42) 29 rfl 103 i0 _ 7 56 Try.underlying29 hi hz0 hz1 hz2 rfl (by decide) (.slice ta m1.trace.length tc) m1.trace.length (rows encAcc m1.trace) St rfl HR.out w1.heap.size 1 103 (encAcc ⟨m1.moves, t, 3, 0, un old, un (old + 1), un old⟩) rfl rfl (by simp [encAcc, Value.oneCell']) HN.out.1 HN.out.2 HB.out ?_; intro g2 cap w2 S2 r1 r2; have k := HO.out ⟨m1.moves, t, 3, 0, un old, un (old + 1), un old⟩ _ S2 r1 r2; have k1 := k.1; have k2 := k.2.1; have K3 := Lib.hid k.2.2; clear k r1 r2)
  all_goals
    go_wp2_with fail
    go_ret
    rw [← HF.out]
    exact ⟨rfl, K3.out⟩

set_option maxHeartbeats 1000000 in
theorem ref_swap_no (W w : World) (p : RSpot) (m : DM) (S F : Hp) (t : Nat) (old : Int) (g0 : 0 ≤ old) (g1 : old ≤ 1000000) (hl : 0 < m.words.length) (ho : wd m.words 0 ≠ old) (hb : m.trace.length < 1048576) (hS : RefAt p m S) (h : Holds W w (S + F)) :
    Calls Try.prog 108 #[rptr p, .int .i64 (t : Int), .int .i64 old] w (RfPost W p (m.dswap t old) F (.bool false)) := by
  obtain ⟨wa, wc, ca, cc, ta0, tc0, c0, c1, c2, c3, c4, -, -, c7, c8, fz, -⟩ := hS.cells h
  obtain ⟨g, hg, cw, fw, hset⟩ := hS.word h (i := 0) hl
  obtain rfl := hg _ _ _ c2
  obtain ⟨w1, rfl⟩ : ∃ w1, w1 = w := ⟨_, rfl⟩
  obtain ⟨m1, rfl⟩ : ∃ m1 : DM, m1 = m := ⟨_, rfl⟩
  obtain ⟨ta, tc, St, G, c5, c6, hr, h2, hlt, hout⟩ := hS.ready h
  have hfin : { m1 with trace := m1.trace ++ [⟨m1.moves, t, 3, 0, un old, un (old + 1), un (wd m1.words 0)⟩] } = m1.dswap t old := by
    unfold DM.dswap; rw [show swp m1.words 0 old (old + 1) = m1.words from by unfold swp; rw [if_neg ho]]
  have hd : (wd m1.words 0 == old) = false := by rw [beq_eq_false_iff_ne]; exact ho
  have hl2 : (0 : Int) < (m1.words.length : Int) := by omega
  obtain ⟨i0, hi, hz0, hz1, hz2⟩ := info_parts infoAcc
  have H1 := Lib.hid h2
  have HO := Lib.hid @hout
  have HR := Lib.hid hr
  have HF := Lib.hid hfin
  clear c0 c1 c3 c4 c7 c8 fz hS h hr hout hg hset h2 hfin ho
  have HN : Hid (m1.trace.length + 1 ≤ maxLen ∧ (m1.trace.length + 1) * 56 ≤ 140737488355328) := ⟨by unfold maxLen; omega, by omega⟩
  have HWR := Lib.hid (IntWalk.i64_in (old + 1) (by omega))
  unfold rptr
  go_enter Try.func108, Try.ntmps108
  go_wp2_with fail
  have HB : Hid (Holds W (w1.alloc (.cells (encAcc ⟨m1.moves, t, 3, 0, un old, un (old + 1), un (wd m1.words 0)⟩).toArray 103 (0, 0))).drew _) := (H1.out.new w1.heap.size rfl (.cells (encAcc ⟨m1.moves, t, 3, 0, un old, un (old + 1), un (wd m1.words 0)⟩).toArray 103 (0, 0))).drew
  have hwr := HWR.out
  go_region_law (refine step_append_one (W := W) (F := G + F) rfl (.tmp 28) (.tmp 42) 29 rfl 103 i0 _ 7 56 Try.underlying29 hi hz0 hz1 hz2 rfl (by decide) (.slice ta m1.trace.length tc) m1.trace.length (rows encAcc m1.trace) St rfl HR.out w1.heap.size 1 103 (encAcc ⟨m1.moves, t, 3, 0, un old, un (old + 1), un (wd m1.words 0)⟩) rfl rfl (by simp [encAcc, Value.oneCell']) HN.out.1 HN.out.2 HB.out ?_; intro g2 cap w2 S2 r1 r2; have k := HO.out ⟨m1.moves, t, 3, 0, un old, un (old + 1), un (wd m1.words 0)⟩ _ S2 r1 r2; have k1 := k.1; have k2 := k.2.1; have K3 := Lib.hid k.2.2; clear k r1 r2)
  all_goals
    go_wp2_with fail
    go_ret
    rw [← HF.out]
    exact ⟨rfl, K3.out⟩

end Go.Proofs.Ythifeaigdobonaa

namespace Go.Proofs.Ythifeaigdobonaa
open Go.RowKit

/-- A call of it. -/
theorem RefAt.call {W w : World} {p : RSpot} {m : DM} {S F : Hp} (hS : RefAt p m S) (h : Holds W w (S + F)) {i : Nat} {c : ACall} (hc : m.calls[i]? = some c) :
    ∃ g, (∀ A n k, w.cell? ⟨p.br, 4, none⟩ = some (.slice A n k) → A = some ⟨g, 0, none⟩) ∧ (∀ j, j < 9 → w.cell? ⟨g, i * 9 + j, none⟩ = (encCall c)[j]?) ∧ (∀ j, w.frozen? ⟨g, j, none⟩ = false) ∧ g < w.heap.size ∧ g ≠ p.br ∧ g ≠ p.ga ∧
      ∀ (j : Nat) (v : Value) (d : ACall), j < 9 → (encCall c).set j v = encCall d → ∃ S', RefAt p { m with calls := m.calls.set i d } S' ∧ Holds W (w.setCell ⟨g, i * 9 + j, none⟩ v) (S' + F) := by
  obtain ⟨wv, cv, tv, Sw, Sc, St, q1, q2, q3, rfl⟩ := hS
  have hlt := (List.getElem?_eq_some_iff.1 hc).1
  have h0 := h.of_eq (Hp.add_assoc _ _ _)
  obtain ⟨g, cap, rest, rfl, rfl, hset⟩ := row_open q2 (by omega)
  have h1 := h.of_eq (show _ = pt g (.cells (arr encCall m.calls rest) 66 (0, 0)) + (pt p.br (refO p m.all.length m.room wv (.slice (some ⟨g, 0, none⟩) m.calls.length cap) tv m.moves m.down m.last) + (pt p.ga (.cells (arr encTh m.all p.rest) 50 (0, 0)) + (Sw + St + F))) from by ac_rfl)
  have h2 := h1.of_eq (show _ = pt g (.cells (arr encCall m.calls rest) 66 (0, 0)) + (pt p.ga (.cells (arr encTh m.all p.rest) 50 (0, 0)) + (pt p.br (refO p m.all.length m.room wv (.slice (some ⟨g, 0, none⟩) m.calls.length cap) tv m.moves m.down m.last) + (Sw + St + F))) from by ac_rfl)
  refine ⟨g, fun A n k hA => ?_, fun j hj => by rw [h1.cell]; exact arr_get encCall_len hc hj, fun j => h1.free j, h1.lt, h1.ne, h2.ne, fun j v d hj he => ?_⟩
  · unfold refO at h0
    rw [h0.cell] at hA
    injection hA with hA
    injection hA with hA _ _
    exact hA.symm
  · have h3 := h1.set (i * 9 + j) v
    rw [arr_set encCall_len hc hj he] at h3
    have hl : (m.calls.set i d).length = m.calls.length := by simp
    refine ⟨_, ⟨wv, .slice (some ⟨g, 0, none⟩) m.calls.length cap, tv, Sw, _, St, q1, hset (m.calls.set i d) hl encCall_len, q3, rfl⟩, h3.of_eq ?_⟩
    show _ = pt p.br (refO p m.all.length m.room wv (.slice (some ⟨g, 0, none⟩) m.calls.length cap) tv m.moves m.down m.last) + _ + F
    ac_rfl

set_option maxHeartbeats 1000000 in
set_option maxRecDepth 100000 in
theorem ref_point (W w : World) (p : RSpot) (m : DM) (S F : Hp) (t : Nat) (x : Th) (c : ACall) (k : Nat) (v : Int) (hx : m.all[t]? = some x) (hk : x.call = k) (hc : m.calls[k]? = some c) (_hn : m.all.length ≤ 16) (_hnc : m.calls.length ≤ 65536) (hS : RefAt p m S) (h : Holds W w (S + F)) :
    Calls Try.prog 105 #[rptr p, .int .i64 (t : Int), .int .i64 v] w (RfPost W p { m with calls := m.calls.set k { c with point := v } } F (.tuple #[])) := by
  obtain ⟨wa, wc, ca, cc, ta0, tc0, c0, c1, c2, c3, c4, -, -, c7, c8, fz, hlt⟩ := hS.cells h
  obtain ⟨hth, _, _, _, _⟩ := hS.th h hx
  obtain ⟨g, hg, hcc, hfr, _, hne, _, hset⟩ := hS.call h hc
  obtain rfl := hg _ _ _ c4
  have e0 := hth 0 (by decide)
  simp only [encTh, List.getElem?_cons_zero, Nat.add_zero, hk] at e0
  have e6 := hcc 6 (by decide)
  simp only [encCall, List.getElem?_cons_zero, List.getElem?_cons_succ] at e6
  have f6 := hfr (k * 9 + 6)
  have htl : t < m.all.length := (List.getElem?_eq_some_iff.1 hx).1
  have hcl : k < m.calls.length := (List.getElem?_eq_some_iff.1 hc).1
  have z0 : (0 : Int) ≤ (t : Int) := by omega
  have z1 : (t : Int) < (m.all.length : Int) := by omega
  have z2 : (0 : Int) ≤ (k : Int) := by omega
  have z3 : (k : Int) < (m.calls.length : Int) := by omega
  have R := Lib.hid (hset 6 (.int .i64 v) { c with point := v } (by decide) rfl)
  clear c0 c1 c2 c7 c8 fz hS h hg hset hfr hcc hth hx hc hk
  unfold rptr
  go_enter Try.func105, Try.ntmps105
  go_wp2_with fail
  go_still_tail 15, (by kernel_rfl)
  go_wp2_with fail
  go_end0
  obtain ⟨S', hS', h'⟩ := R.out
  exact ⟨rfl, S', hS', h'.drew⟩

set_option maxHeartbeats 1000000 in
set_option maxRecDepth 100000 in
theorem ref_end (W w : World) (p : RSpot) (m : DM) (S F : Hp) (t : Nat) (x : Th) (c : ACall) (k : Nat) (kind v : Int) (hx : m.all[t]? = some x) (hk : x.call = k) (hc : m.calls[k]? = some c) (_hn : m.all.length ≤ 16) (_hnc : m.calls.length ≤ 65536) (hS : RefAt p m S) (h : Holds W w (S + F)) :
    Calls Try.prog 106 #[rptr p, .int .i64 (t : Int), .int .i64 kind, .int .i64 v] w (RfPost W p (m.fin t x c kind v) F (.tuple #[])) := by
  obtain ⟨wa, wc, ca, cc, ta0, tc0, c0, c1, c2, c3, c4, -, c6, c7, c8, fz, hlt⟩ := hS.cells h
  obtain ⟨hth, hfa, _, _, _⟩ := hS.th h hx
  obtain ⟨g, hg, hcc, hfr, hgl, hne, hne2, hset⟩ := hS.call h hc
  obtain rfl := hg _ _ _ c4
  have e0 := hth 0 (by decide)
  simp only [encTh, List.getElem?_cons_zero, Nat.add_zero, hk] at e0
  have e5 := hcc 5 (by decide)
  have e7 := hcc 7 (by decide)
  have e8 := hcc 8 (by decide)
  simp only [encCall, List.getElem?_cons_zero, List.getElem?_cons_succ] at e5 e7 e8
  have f5 := hfr (k * 9 + 5)
  have f7 := hfr (k * 9 + 7)
  have f8 := hfr (k * 9 + 8)
  have ft := hfa (t * 5)
  have htl : t < m.all.length := (List.getElem?_eq_some_iff.1 hx).1
  have hcl : k < m.calls.length := (List.getElem?_eq_some_iff.1 hc).1
  have z0 : (0 : Int) ≤ (t : Int) := by omega
  have z1 : (t : Int) < (m.all.length : Int) := by omega
  have z2 : (0 : Int) ≤ (k : Int) := by omega
  have z3 : (k : Int) < (m.calls.length : Int) := by omega
  have R : Hid (∀ nq, ∃ S', RefAt p (m.fin t x c kind v) S' ∧ Holds W (((((w.drewN nq).setCell ⟨g, k * 9 + 5, none⟩ (.int .i64 m.moves)).setCell ⟨g, k * 9 + 7, none⟩ (.int .i64 kind)).setCell ⟨g, k * 9 + 7 + 1, none⟩ (.int .i64 v)).setCell ⟨p.ga, t * 5, none⟩ (.int .i64 (-1))) (S' + F)) := by
    intro nq
    obtain ⟨wv, cv, tv, Sw, Sc, St, q1, q2, q3, rfl⟩ := hS
    obtain ⟨g', cap, rest, rfl, rfl, hset'⟩ := row_open q2 (by omega)
    obtain rfl : g' = g := by
      have h0 := h.of_eq (Hp.add_assoc _ _ _)
      unfold refO at h0
      rw [h0.cell] at c4
      injection c4 with c4
      injection c4 with c4 _ _
      injection c4 with c4
      injection c4
    have h1 := (h.drewN nq).of_eq (show _ = pt g' (.cells (arr encCall m.calls rest) 66 (0, 0)) + (pt p.br (refO p m.all.length m.room wv (.slice (some ⟨g', 0, none⟩) m.calls.length cap) tv m.moves m.down m.last) + (pt p.ga (.cells (arr encTh m.all p.rest) 50 (0, 0)) + (Sw + St + F))) from by ac_rfl)
    have h2 := h1.set (k * 9 + 5) (.int .i64 m.moves)
    rw [arr_set (y := { c with stop := m.moves }) encCall_len hc (by decide) rfl] at h2
    have h3 := h2.set (k * 9 + 7) (.int .i64 kind)
    rw [arr_set (y := { c with stop := m.moves, ak := kind }) encCall_len (get_set hc _) (by decide) rfl, List.set_set] at h3
    have h4 := h3.set (k * 9 + 8) (.int .i64 v)
    rw [arr_set (y := { c with stop := m.moves, ak := kind, av := v }) encCall_len (get_set hc _) (by decide) rfl, List.set_set] at h4
    have h5 := (h4.of_eq (show _ = pt p.ga (.cells (arr encTh m.all p.rest) 50 (0, 0)) + (pt g' (.cells (arr encCall (m.calls.set k { c with stop := m.moves, ak := kind, av := v }) rest) 66 (0, 0)) + (pt p.br (refO p m.all.length m.room wv (.slice (some ⟨g', 0, none⟩) m.calls.length cap) tv m.moves m.down m.last) + (Sw + St + F))) from by ac_rfl)).set (t * 5) (.int .i64 (-1))
    have e5 : (arr encTh m.all p.rest).setIfInBounds (t * 5) (.int .i64 (-1)) = arr encTh (m.all.set t { x with call := -1 }) p.rest := by
      have := arr_set (rest := p.rest) (y := { x with call := -1 }) (v := .int .i64 (-1)) encTh_len hx (j := 0) (by decide) rfl
      simpa using this
    rw [e5] at h5
    have ek : x.call.toNat = k := by omega
    have hl : (m.calls.set k { c with stop := m.moves, ak := kind, av := v }).length = m.calls.length := by simp
    have hl2 : (m.all.set t { x with call := -1 }).length = m.all.length := by simp
    refine ⟨_, ⟨wv, .slice (some ⟨g', 0, none⟩) m.calls.length cap, tv, Sw, pt g' (.cells (arr encCall (m.calls.set k { c with stop := m.moves, ak := kind, av := v }) rest) 66 (0, 0)), St, q1, ?_, q3, rfl⟩, h5.of_eq ?_⟩
    · show RowAt _ 9 _ (m.calls.set x.call.toNat { c with stop := m.moves, ak := kind, av := v }).length (rows encCall (m.calls.set x.call.toNat { c with stop := m.moves, ak := kind, av := v })) _
      rw [ek]; exact hset' _ hl encCall_len
    · show _ = pt p.br (refO p (m.all.set t { x with call := -1 }).length m.room wv (.slice (some ⟨g', 0, none⟩) m.calls.length cap) tv m.moves m.down m.last) + (pt p.ga (.cells (arr encTh (m.all.set t { x with call := -1 }) p.rest) 50 (0, 0)) + (Sw + (pt g' (.cells (arr encCall (m.calls.set k { c with stop := m.moves, ak := kind, av := v }) rest) 66 (0, 0)) + St))) + F
      rw [hl2]
      ac_rfl
  clear c0 c1 c2 c7 c8 hS h hg hset hfr hcc hth hx hc hk hfa
  unfold rptr
  go_enter Try.func106, Try.ntmps106
  go_wp2_with fail
  go_quiet (fail)
  go_wp2_with fail
  go_end0
  exact ⟨rfl, R.out nq⟩

end Go.Proofs.Ythifeaigdobonaa
