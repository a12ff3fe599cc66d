/- Deque.Play: a script's run, in memory of its own. -/
import Derived.Test.YthifeaigdobonaaRup
import Derived.Test.YthifeaigdobonaaBus
import Derived.Test.YthifeaigdobonaaArg
import Derived.Test.YthifeaigdobonaaAlo
namespace Go.Proofs.Ythifeaigdobonaa
open Go.RowKit

theorem Holds.self (w : World) : Holds w w emp := ⟨rfl, rfl, rfl, Nat.le_refl _, fun _ => Nat.zero_le _, fun b h => absurd h (show ¬ 0 < emp.dom b from Nat.lt_irrefl 0), fun _ _ h => h.elim, fun b h => absurd h (show ¬ 0 < emp.dom b from Nat.lt_irrefl 0), fun _ _ => rfl⟩

theorem Holds.trans {W w w' : World} {S T : Hp} (h : Holds W w S) (k : Holds w w' T) : Holds W w' (T + S) := by
  refine ⟨k.os.trans h.os, k.tape.trans h.tape, k.output.trans h.output, Nat.le_trans h.size k.size, fun b => ?_, fun b hb => ?_, fun b o hv => ?_, fun b hb => ?_, fun i hi => ?_⟩
  · simp only [Hp.dom_add]
    rcases Nat.eq_zero_or_pos (T.dom b) with e | e
    · have := h.once b; omega
    · have h1 := k.up b e
      rcases Nat.eq_zero_or_pos (S.dom b) with e2 | e2
      · have := k.once b; omega
      · have := h.low b e2; omega
  · simp only [Hp.dom_add] at hb
    rcases Nat.eq_zero_or_pos (T.dom b) with e | e
    · exact Nat.lt_of_lt_of_le (h.low b (by omega)) k.size
    · exact k.low b e
  · rw [Hp.val_add] at hv
    rcases hv with hv | hv
    · exact k.get b o hv
    · rw [k.old b (h.low b (S.ok b o hv))]; exact h.get b o hv
  · simp only [Hp.dom_add] at hb
    rcases Nat.eq_zero_or_pos (T.dom b) with e | e
    · exact h.up b (by omega)
    · exact Nat.le_trans h.size (k.up b e)
  · rw [k.old i (Nat.lt_of_lt_of_le hi h.size)]; exact h.old i hi

theorem Holds.below {W w : World} {S : Hp} (h : Holds W w S) : Below W.heap.size W w := ⟨h.os, h.tape, h.output, h.size, fun k hk => h.old k hk⟩
theorem Holds.oldCell {W w : World} {S : Hp} (h : Holds W w S) {b off : Nat} (hb : b < W.heap.size) : w.cell? ⟨b, off, none⟩ = W.cell? ⟨b, off, none⟩ := World.cell?_of_block (h.old b hb)

/-- The deque's machine, wherever it lies. -/
structure Spot where
  bM : Nat
  bm : Nat
  kb : Nat
  bv : Nat
  bh : Nat

def Plays (W : World) (p : Spot) (m : DM) (F : Hp) (wr : World) : Prop := ∃ S, PRel p.bM p.bm p.kb p.bv p.bh m S ∧ Holds W wr (S + F)

theorem Plays.inv {W : World} {p : Spot} {m : DM} {F : Hp} {wr : World} (h : Plays W p m F wr) : m.Inv := by obtain ⟨_, h, _⟩ := h; exact h.1

theorem deque_run (W w : World) (p : Spot) {m : DM} {F : Hp} (h : Plays W p m F w) :
    Calls Try.prog 22 #[.pointer (some ⟨p.bM, 0, none⟩)] w fun e w' => ∃ v S', e = .returned v ∧ RunAt v m.calls m.trace (m.words.map un) S' ∧ Plays W p m (S' + F) w' := by
  obtain ⟨S, hrel, h⟩ := h
  have hrel0 := hrel
  obtain ⟨hi, seats, tb, hub, Sm, h1, h2, h3, h4, h5, rfl⟩ := hrel
  have hn := hi.nth
  have hm := hi.mv
  have hc := hi.ncalls
  have ht := hi.ntrace
  have hl := hi.len
  have hr := hi.room
  refine (run_at W w p.bM p.bm (.map (some p.kb)) (m.words.map un) m.trace m.moves m.calls seats Sm (pt p.kb (kitO (ents p.bv)) + restH p.bv p.bh hub tb + F) (by omega) (by omega) (by omega) (by rw [List.length_map]; omega) h4 (h.of_eq (by ac_rfl))).mono ?_
  rintro e w' ⟨v, S', rfl, hR, h'⟩
  exact ⟨v, S', rfl, hR, _, hrel0, h'.of_eq (by ac_rfl)⟩

theorem deque_mv (W w : World) (p : Spot) {m : DM} {F : Hp} (v : DM.Mv) (harg : I64 v.arg) (h : Plays W p m F w) :
    Calls Try.prog 19 (moveArgs p.bM v.thread v.op v.arg v.data) w fun e w' => e = .returned (.bool (m.move v).2) ∧ Plays W p (m.move v).1 F w' := by
  obtain ⟨S, hrel, h⟩ := h
  exact (deque_move W w p.bM p.bm p.kb p.bv p.bh F v harg hrel h).mono fun e w' ⟨he, S', h1, h2⟩ => ⟨he, S', h1, h2⟩

theorem deque_made (W w : World) (n room : Nat) (S : Hp) (hok : okD n room) (h : Holds W w S) :
    Calls Try.prog 16 #[dqV n room] w fun e w' => ∃ p : Spot, e = .returned (.tuple #[.pointer (some ⟨p.bM, 0, none⟩), .int .i64 0]) ∧ Plays W p (DM.init n room) S w' :=
  (deque_new W w n room S hok h).mono fun _ _ ⟨bM, bm, kb, bv, bh, S', he, h1, h2⟩ => ⟨⟨bM, bm, kb, bv, bh⟩, he, S', h1, h2⟩

theorem Plays.alloc {W : World} {p : Spot} {m : DM} {F : Hp} {w : World} (h : Plays W p m F w) (o : Obj) : Plays W p m F (w.alloc o) := by
  obtain ⟨S, h1, h2⟩ := h
  exact ⟨S, h1, (h2.alloc o).right⟩
theorem Plays.of_eq {W : World} {p : Spot} {m : DM} {F G : Hp} {w : World} (h : Plays W p m F w) (e : F = G) : Plays W p m G w := e ▸ h
theorem Plays.left {W : World} {p : Spot} {m : DM} {F G : Hp} {w : World} (h : Plays W p m (F + G) w) : Plays W p m F w := by
  obtain ⟨S, h1, h2⟩ := h
  exact ⟨S, h1, (h2.of_eq (show _ = (S + F) + G from by ac_rfl)).left⟩
theorem Plays.holds {W : World} {p : Spot} {m : DM} {F : Hp} {w : World} (h : Plays W p m F w) : Holds W w F := by
  obtain ⟨S, _, h2⟩ := h
  exact h2.right

/-- The cells of a script's move. -/
theorem MovesIn.at {W w : World} {a : Option Addr} {n : Nat} {mvs : List DM.Mv} {F : Hp} (hm : MovesIn W a n mvs) (h : Holds W w F) {k : Nat} {v : DM.Mv} (hk : mvs[k]? = some v) :
    ∃ b off, a = some ⟨b, off, none⟩ ∧ MvOK v ∧ w.cell? ⟨b, off + k * 4, none⟩ = some (.int .i64 v.thread) ∧ w.cell? ⟨b, off + k * 4 + 1, none⟩ = some (.int .i64 v.op) ∧ w.cell? ⟨b, off + k * 4 + 2, none⟩ = some (.int .i64 v.arg) ∧ w.cell? ⟨b, off + k * 4 + 3, none⟩ = some (.int .i64 v.data) := by
  obtain ⟨_, _, h2, h3⟩ := hm
  rcases h3 with rfl | ⟨b, off, rfl, hb, hc⟩
  · simp at hk
  · refine ⟨b, off, rfl, h2 v (List.mem_of_getElem? hk), ?_, ?_, ?_, ?_⟩
    · rw [h.oldCell hb]; exact hc k v hk 0 (by decide)
    · rw [h.oldCell hb, show off + k * 4 + 1 = off + (k * 4 + 1) from by omega]; exact hc k v hk 1 (by decide)
    · rw [h.oldCell hb, show off + k * 4 + 2 = off + (k * 4 + 2) from by omega]; exact hc k v hk 2 (by decide)
    · rw [h.oldCell hb, show off + k * 4 + 3 = off + (k * 4 + 3) from by omega]; exact hc k v hk 3 (by decide)

/-- Two results, the first a struct in a cell of its own. -/
theorem results_cell_two {P : Program} {fn : Func} {p t : Tmp} {ty : TypeId} (h : fn.results = #[.cell p ty, .tmp t]) (tmps : Array Value) (w : World) (g : Nat) (tt : TypeId) (cs : Array Value) (fr : Nat × Nat) (d : TypeDesc)
    (hp : tmps.getD p undef = .pointer (some ⟨g, 0, none⟩)) (hg : w.heap[g]? = some (.cells cs tt fr))
    (hu : P.underlying ty = some d) (hd : (match d with | .struct _ | .array _ _ => true | _ => false) = true) (hi : (P.info? ty).map (·.size) = some cs.size) :
    (results fn tmps).run P w = .ok (.tuple #[.agg cs, tmps.getD t undef]) w := by
  have hp' : tmps[p]?.getD undef = .pointer (some ⟨g, 0, none⟩) := by simpa using hp
  simp [results, h, hp', asAddr, run_loadVar_row w g tt ty cs fr d hg hu hd hi]

def playF (w : World) (n room : Nat) : Hp := pt (w.heap.size + 1) (.cells #[.slice none 0 0, .slice none 0 0, .slice none 0 0, .slice none 0 0] 33 (0, 0)) + (pt w.heap.size (.cells #[.int .i64 (n : Int), .int .i64 (room : Int)] 23 (0, 0)) + emp)

set_option maxHeartbeats 1000000 in
set_option maxRecDepth 100000 in
theorem play_ok (w : World) (n room : Nat) (hok : okD n room) (a : Option Addr) (len cap : Nat) (mvs : List DM.Mv) (hm : MovesIn w a len mvs) (hl : mvs.length ≤ 65536) :
    Calls Try.prog 12 #[dqV n room, .slice a len cap] w fun e w' => ∃ v S', e = .returned (.tuple #[v, .int .i64 0]) ∧
      RunAt v ((DM.init n room).runs mvs).calls ((DM.init n room).runs mvs).trace (((DM.init n room).runs mvs).words.map un) S' ∧ Holds w w' S' := by
  have hlen : len = mvs.length := hm.1
  have hle : (len : Int) ≤ 65536 := by omega
  have h1 := ((Holds.self w).new w.heap.size rfl (.cells #[.int .i64 (n : Int), .int .i64 (room : Int)] 23 (0, 0))).new (w.heap.size + 1) (by simp) run0
  unfold run0 at h1
  have c0 := h1.right.cell 0
  have c1 := h1.right.cell 1
  have HM := Lib.hid hm
  have HL := Lib.hid hlen
  have HO := Lib.hid hok
  have H1 := Lib.hid h1
  clear hm hlen hok h1
  unfold dqV
  go_enter Try.func12, Try.ntmps12
  go_wp2_with fail
  refine (deque_made w _ n room _ HO.out H1.out).mono ?_
  rintro e w1 ⟨p, rfl, hp⟩
  have HP := Lib.hid hp
  clear hp c0 c1
  go_wp2_with fail
  go_loopw [25] (fun i wr => ∃ k : Nat, k ≤ len ∧ i = .int .i64 k ∧ Plays w p ((DM.init n room).runs (mvs.take k)) (playF w n room) wr) (fun i _ => len - (intOf i).toNat)
  case atStart => exact ⟨0, Nat.zero_le _, rfl, HP.out⟩
  case round =>
    obtain ⟨k, hk, rfl, hp⟩ := hrel
    clear HP
    by_cases hlt : k < len
    · have hx := List.getElem?_eq_getElem (show k < mvs.length by rw [← HL.out]; exact hlt)
      generalize mvs[k] = v at hx
      obtain ⟨b, off, rfl, hok, e0, e1, e2, e3⟩ := HM.out.at hp.holds hx
      have HX := Lib.hid hx
      have HP := Lib.hid (hp.alloc (.cells (encMv v).toArray 27 (0, 0)))
      have HV := Lib.hid hok.2.2.1
      clear hx hp hok
      go_wp2_with fail
      refine (deque_mv w _ p v HV.out HP.out).mono ?_
      rintro e w' ⟨rfl, hp'⟩
      have HP' : Hid (Plays w p ((DM.init n room).runs (mvs.take (k + 1))) (playF w n room) w') := by rw [DM.runs_take _ _ HX.out]; exact hp'
      clear hp'
      go_wp2_with fail
      go_roundw
      case rel => exact ⟨k + 1, by omega, by go_num, HP'.out⟩
      case measure => simp [intOf]; omega
    · have : k = len := by omega
      subst this
      have e := HL.out
      rw [List.take_of_length_le (by omega)] at hp
      have HP := Lib.hid hp
      clear hp e
      go_wp2_with fail
      refine (deque_run w _ p HP.out).mono ?_
      rintro e w2 ⟨v, S', rfl, hR, hp2⟩
      obtain ⟨cv, tv, wv, Sc, St, Sw, rfl, q1, q2, q3, rfl⟩ := hR
      obtain ⟨ca, cc, rfl⟩ := q1.form
      obtain ⟨ta, tc, rfl⟩ := q2.form
      obtain ⟨wa, wc, rfl⟩ := q3.form
      have h2 := hp2.holds.of_eq (show _ = pt (w.heap.size + 1) (.cells #[.slice none 0 0, .slice none 0 0, .slice none 0 0, .slice none 0 0] 33 (0, 0)) + (Sc + (St + Sw) + (pt w.heap.size (.cells #[.int .i64 (n : Int), .int .i64 (room : Int)] 23 (0, 0)))) from by unfold playF; rw [Hp.add_emp]; ac_rfl)
      have k0 : w2.cell? ⟨w.heap.size + 1, 0, none⟩ = some (.slice none 0 0) := by rw [h2.cell]; rfl
      have k1 : w2.cell? ⟨w.heap.size + 1, 1, none⟩ = some (.slice none 0 0) := by rw [h2.cell]; rfl
      have k2 : w2.cell? ⟨w.heap.size + 1, 2, none⟩ = some (.slice none 0 0) := by rw [h2.cell]; rfl
      have k3 : w2.cell? ⟨w.heap.size + 1, 3, none⟩ = some (.slice none 0 0) := by rw [h2.cell]; rfl
      have f0 := h2.free 0
      have f1 := h2.free 1
      have f2 := h2.free 2
      have f3 := h2.free 3
      have H2 := Lib.hid h2
      have HR := Lib.hid (show RunAt _ _ _ _ (Sc + (St + Sw)) from ⟨_, _, _, Sc, St, Sw, rfl, q1, q2, q3, rfl⟩)
      rw [List.length_map] at HR
      clear h2 hp2 q1 q2 q3 HP
      go_wp2_with fail
      have h3 := (((((H2.out.set 0 (.slice ca ((DM.init n room).runs mvs).calls.length cc)).set 1 (.slice ta ((DM.init n room).runs mvs).trace.length tc)).set 2 (.slice none 0 0)).set 3 (.slice wa ((DM.init n room).runs mvs).words.length wc)).of_eq (show _ = pt (w.heap.size + 1) (.cells #[.slice ca ((DM.init n room).runs mvs).calls.length cc, .slice ta ((DM.init n room).runs mvs).trace.length tc, .slice none 0 0, .slice wa ((DM.init n room).runs mvs).words.length wc] 33 (0, 0)) + (Sc + (St + Sw) + (pt w.heap.size (.cells #[.int .i64 (n : Int), .int .i64 (room : Int)] 23 (0, 0)))) from by simp only [List.setIfInBounds_toArray, List.set_cons_zero, List.set_cons_succ]))
      refine bodyPost_ret (v := .tuple #[.agg #[.slice ca ((DM.init n room).runs mvs).calls.length cc, .slice ta ((DM.init n room).runs mvs).trace.length tc, .slice none 0 0, .slice wa ((DM.init n room).runs mvs).words.length wc], .int .i64 0]) ?_ rfl ?_
      · exact results_cell_two (ty := 33) (p := 4) (t := 5) (by rfl) _ _ (w.heap.size + 1) 33 _ (0, 0) _ (by rfl) h3.at Try.underlying33 rfl (by kernel_rfl)
      · exact ⟨_, _, rfl, HR.out, h3.right.left⟩

end Go.Proofs.Ythifeaigdobonaa
