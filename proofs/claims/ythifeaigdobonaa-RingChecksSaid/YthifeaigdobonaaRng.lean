/- Range over Memory.Log: what a round of Machine.Run's loop keeps; the iterator's contract. -/
import Derived.RangeFuncNested
import Derived.RangeFuncBound
import Derived.RangeFuncCalls
import Derived.RangeFuncLeaves
import Derived.Shelf.Abstract
import Derived.Shelf.RegionOpen
import Derived.WalkKit
import Derived.OwnWalkIn
import Derived.TacticsInMore
import Derived.LoopNIn
import Derived.LoopIn
import Derived.Test.YthifeaigdobonaaCln
import Derived.Test.YthifeaigdobonaaRow
namespace Go.Proofs.Ythifeaigdobonaa
open Go.RowKit Go.Shelf
attribute [local go_sem] Oper.semAt_some

/-- Block k is the row of the slice in cell 1 of block b. -/
def RowIs (b : Nat) (W : World) (k : Nat) : Prop := ∃ n c, W.cell? ⟨b, 1, none⟩ = some (.slice (some ⟨k, 0, none⟩) n c)

/-- What a round keeps: all cells but block b and the row behind its cell 1; that row is as before or new. -/
structure KpR (b : Nat) (W W' : World) : Prop where
  size : W.heap.size ≤ W'.heap.size
  keep : ∀ (k : Nat) (o : Obj), W.heap[k]? = some o → o.isCells = true → k ≠ b → ¬ RowIs b W k → W'.heap[k]? = some o
  new : ∀ k, RowIs b W' k → RowIs b W k ∨ W.heap.size ≤ k

theorem KpR.trans {b : Nat} {A B C : World} (h : KpR b A B) (k : KpR b B C) : KpR b A C := by
  refine ⟨Nat.le_trans h.size k.size, fun i o hi ho hb hr => ?_, fun i hi => ?_⟩
  · have hlt : i < A.heap.size := (Array.getElem?_eq_some_iff.1 hi).1
    refine k.keep i o (h.keep i o hi ho hb hr) ho hb (fun h2 => ?_)
    rcases h.new i h2 with h3 | h3
    · exact hr h3
    · omega
  · rcases k.new i hi with h2 | h2
    · exact h.new i h2
    · exact .inr (Nat.le_trans h.size h2)

theorem KpR.putObj {b B : Nat} (hb : b < B) (W : World) (l : Nat) (o o' : Obj) (hl : B ≤ l) (ho : W.heap[l]? = some o) (hc : o.isCells = false) : KpR b W (W.putObj l o') := by
  have hg := grownBy_putObj' W l o'
  have hb1 : ∀ k, k ≠ l → k < W.heap.size → (W.putObj l o').heap[k]? = W.heap[k]? := fun k hk hlt => hg.block k hlt (fun e => hk (by cases e; rfl))
  refine ⟨hg.size, fun k x hk hx hkb _ => ?_, fun k hk => ?_⟩
  · rw [hb1 k (fun e => by subst e; rw [ho] at hk; cases hk; rw [hc] at hx; cases hx) (Array.getElem?_eq_some_iff.1 hk).1]; exact hk
  · by_cases hlt : b < W.heap.size
    · obtain ⟨n, c, h⟩ := hk
      exact .inl ⟨n, c, by rw [← h]; exact (World.cell?_of_block (hb1 b (by omega) hlt)).symm⟩
    · exact absurd (Nat.lt_of_lt_of_le hb hl) (fun h => hlt (Nat.lt_trans h (Array.getElem?_eq_some_iff.1 ho).1))

theorem KpR.alloc (b : Nat) (W : World) (o : Obj) (hb : b < W.heap.size) : KpR b W (W.alloc o) := by
  refine ⟨by simp, fun k x hk _ _ _ => ?_, fun k hk => ?_⟩
  · rw [Below.heap_alloc W o k (Array.getElem?_eq_some_iff.1 hk).1]; exact hk
  · obtain ⟨n, c, h⟩ := hk
    exact .inl ⟨n, c, by rw [← h]; exact (World.cell?_of_block (Below.heap_alloc W o b hb)).symm⟩

/-- slices.Clone of a log, told by what has grown. -/
def ClPost (w : World) (n : Nat) (xs : List Value) (e : Ending) (w' : World) : Prop :=
  ∃ a c, e = .returned (.slice a n c) ∧ w'.ownsRow w.heap.size 103 7 (.slice a n c) n xs ∧ Below w.heap.size w w'

set_option maxRecDepth 100000 in
theorem clone_own (w : World) (g n cap : Nat) (xs rest : List Value) (hx : xs.length = n * 7) (hn : n * 56 ≤ 140737488355328) (h1 : ∀ u ∈ xs, u.oneCell' = true) (hg : w.heap[g]? = some (.cells (xs ++ rest).toArray 103 (0, 0))) :
    Calls Try.prog 85 #[.slice (some ⟨g, 0, none⟩) n cap] w (ClPost w n xs) := by
  obtain ⟨i0, hi, hz0, hz1, hz2⟩ := info_parts infoAcc
  have q : ∀ (w : World) (a : Option Addr) (n c n' c' : Nat), (binOp .eql 29 (.slice a n c) (.slice none n' c')).run Try.prog w = .ok (.bool a.isNone) w := fun w a n c n' c' => Lib.run_eql_slice_nil w _ _ a n c n' c' Try.underlying29
  have HN := Lib.hid hn
  have H1 := Lib.hid h1
  have hlt : g < w.heap.size := (Array.getElem?_eq_some_iff.1 hg).1
  have HC : Hid (∀ j u, xs[j]? = some u → (w.alloc (.cells #[] 103 (0, 0))).cell? ((⟨g, 0, none⟩ : Addr).add j) = some u) := by
    intro j u hu
    rw [add_none, World.cell?_of_block (Below.heap_alloc w _ g hlt)]
    have : w.cell? ⟨g, j, none⟩ = (xs ++ rest)[j]? := by simp [World.cell?, hg]
    rw [this]
    simpa [List.getElem?_append, (List.getElem?_eq_some_iff.1 hu).1] using hu
  clear hn h1 hg
  rcases Nat.eq_zero_or_pos n with rfl | hpos
  · obtain rfl : xs = [] := List.eq_nil_of_length_eq_zero (by simpa using hx)
    go_enter Try.func85, Try.ntmps85
    go_wp2_with (at_builtin; go_must (refine wpList_append_zero rfl (.tmp 5) (.tmp 6) 29 rfl 103 i0 Try.underlying29 hi w.heap.size 0 0 rfl (by decide) ⟨g, 0, none⟩ cap rfl ?_))
    go_wp2_with fail
    go_ret
    exact ⟨_, _, rfl, World.ownsRow_made w #[] 0 (Nat.le_refl _) (Nat.zero_le _) rfl, (Below.refl _ w).alloc (Nat.le_refl _) _⟩
  · have HB : Hid (0 + n ≤ maxLen ∧ (0 + n) * 56 ≤ 140737488355328) := Lib.hid (by have := HN.out; unfold maxLen; omega)
    go_enter Try.func85, Try.ntmps85
    go_wp2_with (at_builtin; go_must (refine wpList_append_own _ rfl (.tmp 5) (.tmp 6) 29 rfl w.heap.size 103 i0 _ 7 56 Try.underlying29 hi hz0 hz1 hz2 rfl (by decide) (.slice (some ⟨w.heap.size, 0, none⟩) 0 0) 0 [] rfl (World.ownsRow_made w #[] 0 (Nat.le_refl _) (Nat.zero_le _) rfl) ⟨g, 0, none⟩ n cap xs rfl hx HC.out H1.out HB.out.1 HB.out.2 (by simp) ?_))
    intro v' w1 hown hgrow hnil
    obtain ⟨hlen, ⟨_, h0⟩ | ⟨g2, cap2, cur, rfl, r1, r2, r3, r4, r5, r6⟩⟩ := hown
    · omega
    have HG := Lib.hid hgrow
    have HO : Hid (w1.ownsRow w.heap.size 103 7 (.slice (some ⟨g2, 0, none⟩) n cap2) n xs) := ⟨hlen, .inr ⟨g2, cap2, cur, rfl, r1, r2, r3, r4, r5, r6⟩⟩
    clear hgrow hnil hlen r2 r3 r4 r5 r6
    go_wp2_with fail
    go_ret
    exact ⟨_, _, rfl, HO.out, ((Below.refl _ w).alloc (Nat.le_refl _) _).grown HG.out (by simp) (by intro k hk; simp [Value.ownBlock] at hk; omega)⟩


/-- What the iterator hands out: each access with its number. -/
def idx (log : List Acc) : List (Nat × Acc) := (List.range log.length).zip log
theorem idx_take {log : List Acc} {k : Nat} {x : Acc} (hx : log[k]? = some x) : (idx log).take (k + 1) = (idx log).take k ++ [(k, x)] := by
  have hlt : k < log.length := (List.getElem?_eq_some_iff.1 hx).1
  have h2 : (idx log)[k]? = some (k, x) := by
    unfold idx
    rw [List.getElem?_zip_eq_some]
    exact ⟨by simp [hlt], hx⟩
  rw [List.take_add_one, h2]; rfl
theorem idx_all (log : List Acc) : (idx log).take log.length = idx log := by
  apply List.take_of_length_le; unfold idx; simp
theorem idx_len (log : List Acc) (k : Nat) (h : k ≤ log.length) : ((idx log).take k).length = k := by unfold idx; simp; omega

def encIdx (p : Nat × Acc) : Array Value := #[.int .i64 (p.1 : Int), .agg #[.int .i64 p.2.move, .int .i64 p.2.thread, .int .i64 p.2.kind, .int .i64 p.2.addr, .int .u64 p.2.old, .int .u64 p.2.new, .int .u64 p.2.saw]]

/-- At the head of round k: the log's copy lies in block g, out of the loop body's way. -/
def LogAt (b : Nat) (log : List Acc) (a : Option Addr) (W : World) : Prop :=
  log = [] ∨ ∃ g cur, a = some ⟨g, 0, none⟩ ∧ W.heap[g]? = some (.cells cur 103 (0, 0)) ∧ cur.toList.take (log.length * 7) = rows encAcc log ∧ g ≠ b ∧ ¬ RowIs b W g

theorem LogAt.kept {b : Nat} {log : List Acc} {a : Option Addr} {W W' : World} (h : LogAt b log a W) (hk : KpR b W W') : LogAt b log a W' := by
  rcases h with h | ⟨g, cur, h1, h2, h3, h4, h5⟩
  · exact .inl h
  · refine .inr ⟨g, cur, h1, hk.keep g _ h2 rfl h4 h5, h3, h4, fun hr => ?_⟩
    have hlt : g < W.heap.size := (Array.getElem?_eq_some_iff.1 h2).1
    rcases hk.new g hr with h6 | h6
    · exact h5 h6
    · omega

theorem encAcc_len (x : Acc) : (encAcc x).length = 7 := rfl
theorem LogAt.cell {b : Nat} {log : List Acc} {a : Option Addr} {W : World} (h : LogAt b log a W) {k : Nat} {x : Acc} (hx : log[k]? = some x) :
    ∃ g, a = some ⟨g, 0, none⟩ ∧ ∀ j, j < 7 → W.cell? ⟨g, k * 7 + j, none⟩ = (encAcc x)[j]? := by
  have hlt : k < log.length := (List.getElem?_eq_some_iff.1 hx).1
  rcases h with rfl | ⟨g, cur, h1, h2, h3, _, _⟩
  · simp at hlt
  · refine ⟨g, h1, fun j hj => ?_⟩
    have e := rows_get encAcc_len log k x hx j hj
    rw [← h3, List.getElem?_take, if_pos (by omega)] at e
    rw [← e]
    simp [World.cell?, h2]


theorem lt_of_cell {w : World} {a : Addr} {v : Value} (h : w.cell? a = some v) : a.block < w.heap.size := by
  rcases Nat.lt_or_ge a.block w.heap.size with e | e
  · exact e
  · simp [World.cell?, Array.getElem?_eq_none e] at h

theorem AbidesFrom.below {β : Type} {B : Nat} {J : β → World → Prop} (h : AbidesFrom B J) {s : β} {W W' : World} (hs : J s W) (hB : Below W.heap.size W W') : J s W' :=
  h s W W' none hs ⟨hB.os, hB.tape, hB.output, hB.size, fun k hk _ => hB.block k hk⟩ (fun r e => by cases e)

/-- What the memory's log is, ahead of the loop. -/
def LogLies (w : World) (bm b : Nat) (log : List Acc) : Prop :=
  ∃ lv, w.cell? ⟨bm, 1, none⟩ = some lv ∧ w.cell? ⟨b, 1, none⟩ = some (.slice none 0 0) ∧ b < w.heap.size ∧
    ((lv = .slice none 0 0 ∧ log = []) ∨ ∃ g cap rest, lv = .slice (some ⟨g, 0, none⟩) log.length cap ∧ w.heap[g]? = some (.cells (rows encAcc log ++ rest).toArray 103 (0, 0)))

set_option maxRecDepth 100000 in
set_option maxHeartbeats 2000000 in
theorem log_walk (n : Nat) (hn : 1 ≤ n) (l B1 B2 bm b : Nat) (log : List Acc) (hlen : log.length ≤ 1000000) (J Jx : List (Nat × Acc) → World → Prop) (W : World)
    (hJ : AbidesFrom W.heap.size J)
    (hY : ∀ pre x W1, J pre W1 → pre.length < log.length → YieldAt Fence.wide (n - 1) Try.prog l (encIdx x) W1 fun e W' =>
      (e = .returned (.bool true) ∧ J (pre ++ [x]) W' ∧ KpR b W1 W') ∨ (e = .returned (.bool false) ∧ Jx (pre ++ [x]) W'))
    (c1 : W.cell? ⟨B1, 0, none⟩ = some (.pointer (some ⟨bm, 0, none⟩))) (c2 : W.cell? ⟨B2, 0, none⟩ = some (.int .i64 0)) (hL : LogLies W bm b log) (h0 : J [] W) :
    CallsIn Fence.wide n Try.prog 84 #[.func (.yield l) #[] #[], .pointer (some ⟨B1, 0, none⟩), .pointer (some ⟨B2, 0, none⟩)] W fun e W' => (∃ v, e = .returned v) ∧
      ((∃ ys, ys = idx log ∧ J ys W') ∨ (∃ pre, True ∧ Jx pre W')) := by
  obtain ⟨lv, c3, c4, hb, hlv⟩ := hL
  have HL := Lib.hid hlen
  clear hlen
  refine callsIn_of_wp (f := 84) Try.func84 rfl trivial ?_ rfl
  simp only [Try.ntmps84, List.size_toArray, List.length_cons, List.length_nil, Nat.reduceAdd, Nat.reduceSub, Array.replicate_succ, Array.replicate_zero, List.push_toArray, List.append_toArray, List.nil_append, List.cons_append]
  have hc : ∃ a c, lv = .slice a log.length c ∧ Calls Try.prog 85 #[.slice a log.length c] W (ClPost W log.length (rows encAcc log)) := by
    rcases hlv with ⟨rfl, rfl⟩ | ⟨g, cap, rest, rfl, hg⟩
    · refine ⟨none, 0, rfl, ?_⟩
      have q : ∀ (w : World) (a : Option Addr) (n c n' c' : Nat), (binOp .eql 29 (.slice a n c) (.slice none n' c')).run Try.prog w = .ok (.bool a.isNone) w := fun w a n c n' c' => Lib.run_eql_slice_nil w _ _ a n c n' c' Try.underlying29
      clear hY hJ h0 c1 c2 c3 c4
      show Calls Try.prog _ #[.slice none 0 0] W _
      go_enter Try.func85, Try.ntmps85
      go_wp2_with fail
      go_ret
      exact ⟨none, 0, rfl, World.ownsRow_nil _ _ _ _, Below.refl _ _⟩
    · exact ⟨_, cap, rfl, clone_own W g log.length cap (rows encAcc log) rest (by rw [rows_length encAcc_len]) (by have := HL.out; omega) (fun u hu => by
        simp only [rows, List.mem_flatMap] at hu
        obtain ⟨x, _, hx⟩ := hu
        simp only [encAcc, List.mem_cons, List.not_mem_nil, or_false] at hx
        rcases hx with rfl | rfl | rfl | rfl | rfl | rfl | rfl <;> rfl) hg⟩
  obtain ⟨a, c, rfl, hcl⟩ := hc
  clear hlv
  have HC := Lib.hid hcl
  have HB2 := Lib.hid (lt_of_cell c2)
  have HJ := Lib.hid hJ
  have HY := Lib.hid hY
  have hm : (log.length : Int) ≤ 9223372036854775807 := by have := HL.out; omega
  clear hcl hJ hY
  gi_wp2_with (refine ⟨trivial, ?_⟩; gi_at_call 85; refine (callsIn_wide.2 HC.out).mono ?_; rintro e w2 ⟨a2, cc2, rfl, hown, hB⟩; have k2 := (hB.cell (p := ⟨B2, 0, none⟩) HB2.out).trans c2)
  have hJ2 : J ((idx log).take 0) w2 := AbidesFrom.below HJ.out h0 hB
  have hLog : LogAt b log a2 w2 := by
    obtain ⟨hlen, ⟨e1, e2⟩ | ⟨g, cap, cur, e1, r1, r2, r3, r4, r5, r6⟩⟩ := hown
    · exact .inl (List.eq_nil_of_length_eq_zero e2)
    · injection e1 with e1 _ _
      refine .inr ⟨g, cur, e1, r2, r6, by omega, fun ⟨n2, c2', hr⟩ => ?_⟩
      have := (hB.cell (p := ⟨b, 1, none⟩) hb).trans c4
      rw [this] at hr
      simp at hr
  have HJ2 := Lib.hid hJ2
  have HLog := Lib.hid hLog
  clear hJ2 hLog hown hB h0 c1 c2 c3 c4 k2
  gi_loopw [5] (fun i wr => ∃ k : Nat, k ≤ log.length ∧ i = .int .i64 k ∧ J ((idx log).take k) wr ∧ LogAt b log a2 wr) (fun i _ => log.length - (intOf i).toNat)
  case atStart => exact ⟨0, Nat.zero_le _, rfl, HJ2.out, HLog.out⟩
  case round =>
    obtain ⟨k, hk, rfl, hJk, hLk⟩ := hrel
    clear HJ2 HLog
    by_cases hlt : k < log.length
    · have hx := List.getElem?_eq_getElem hlt
      generalize log[k] = x at hx
      obtain ⟨g, rfl, hcell⟩ := hLk.cell hx
      obtain ⟨fn, tmps, assign, body, hy, hR⟩ := HY.out _ (k, x) wr hJk (by rw [idx_len log k hk]; exact hlt)
      unfold encIdx at hy
      have e0 := hcell 0 (by decide)
      have e1 := hcell 1 (by decide)
      have e2 := hcell 2 (by decide)
      have e3 := hcell 3 (by decide)
      have e4 := hcell 4 (by decide)
      have e5 := hcell 5 (by decide)
      have e6 := hcell 6 (by decide)
      simp only [encAcc, List.getElem?_cons_zero, List.getElem?_cons_succ, Nat.add_zero] at e0 e1 e2 e3 e4 e5 e6
      have HLk := Lib.hid hLk
      have HX := Lib.hid hx
      clear hcell hLk hx hJk
      gi_wp2
      refine hR.mono ?_
      clear e0 e1 e2 e3 e4 e5 e6 hy
      rintro e W3 (⟨rfl, hJ3, hk3⟩ | ⟨rfl, hJx3⟩)
      · have HJ3 : Hid (J ((idx log).take (k + 1)) W3) := by rw [idx_take HX.out]; exact hJ3
        have HK3 := Lib.hid hk3
        clear hJ3 hk3
        gi_wp2
        go_roundw
        case rel => exact ⟨k + 1, by omega, by go_num, HJ3.out, HLk.out.kept HK3.out⟩
        case measure => simp [intOf]; omega
      · gi_wp2
        refine bodyPost_ret (results_none rfl _ _ _) rfl ?_
        exact ⟨⟨_, rfl⟩, .inr ⟨_, trivial, hJx3⟩⟩
    · have : k = log.length := by omega
      subst this
      gi_wp2
      go_end0
      exact ⟨⟨_, rfl⟩, .inl ⟨_, idx_all log, hJk⟩⟩


/-- Memory.Log's value, ranged over. -/
theorem log_stops (n : Nat) (hn : 1 ≤ n) (B1 B2 bm b : Nat) (log : List Acc) (hlen : log.length ≤ 1000000) (w : World) (c1 : w.cell? ⟨B1, 0, none⟩ = some (.pointer (some ⟨bm, 0, none⟩))) (c2 : w.cell? ⟨B2, 0, none⟩ = some (.int .i64 0)) (hL : LogLies w bm b log) :
    SeqStopsK Fence.wide n Try.prog 84 #[.pointer (some ⟨B1, 0, none⟩), .pointer (some ⟨B2, 0, none⟩)] encIdx (KpR b) (fun ys => ys = idx log) (fun _ => True) log.length w := by
  intro l J Jx W hW hJ _ hY h0
  refine log_walk n hn l B1 B2 bm b log hlen J Jx W hJ hY ((hW.cell (p := ⟨B1, 0, none⟩) (lt_of_cell c1)).trans c1) ((hW.cell (p := ⟨B2, 0, none⟩) (lt_of_cell c2)).trans c2) ?_ h0
  obtain ⟨lv, q1, q2, q3, q4⟩ := hL
  refine ⟨lv, (hW.cell (p := ⟨bm, 1, none⟩) (lt_of_cell q1)).trans q1, (hW.cell (p := ⟨b, 1, none⟩) q3).trans q2, Nat.lt_of_lt_of_le q3 hW.size, ?_⟩
  rcases q4 with q4 | ⟨g, cap, rest, e1, e2⟩
  · exact .inl q4
  · exact .inr ⟨g, cap, rest, e1, (hW.block g (Array.getElem?_eq_some_iff.1 e2).1).trans e2⟩

end Go.Proofs.Ythifeaigdobonaa
