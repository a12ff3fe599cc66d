/- 'quiet', and deque.Left, of a run of one's own. -/
import Derived.Test.YthifeaigdobonaaAla
import Derived.Test.YthifeaigdobonaaOns
namespace Go.Proofs.Ythifeaigdobonaa
open Go.RowKit

/-- Have all calls ended? -/
def quietB (calls : List ACall) : Bool := calls.all fun c => decide (0 ≤ c.stop)

theorem quietB_false {calls : List ACall} {k : Nat} {c : ACall} (hc : calls[k]? = some c) (h : c.stop < 0) : quietB calls = false := by
  unfold quietB
  rw [List.all_eq_false]
  exact ⟨c, List.mem_of_getElem? hc, by simp; omega⟩
theorem quietB_true {calls : List ACall} (h : ∀ (j : Nat) c, calls[j]? = some c → j < calls.length → 0 ≤ c.stop) : quietB calls = true := by
  unfold quietB
  rw [List.all_eq_true]
  intro c hc
  obtain ⟨j, hj⟩ := List.getElem?_of_mem hc
  simpa using h j c hj (List.getElem?_eq_some_iff.1 hj).1

set_option maxRecDepth 100000 in
theorem quiet_at (W w : World) (v : Value) (calls : List ACall) (trace : List Acc) (words : List Int) (S F : Hp) (hn : calls.length ≤ 100000) (hR : RunAt v calls trace words S) (h : Holds W w (S + F)) :
    Calls Try.prog 26 #[v] w fun e w' => e = .returned (.bool (quietB calls)) ∧ Below w.heap.size w w' := by
  obtain ⟨cv, tv, wv, Sc, St, Sw, rfl, q1, q2, q3, rfl⟩ := hR
  obtain ⟨ta, tc, rfl⟩ := q2.form
  obtain ⟨wa, wc, rfl⟩ := q3.form
  obtain ⟨ca, cc, rfl⟩ := q1.form
  have hcell : ∀ (k : Nat) (c : ACall), calls[k]? = some c → ∃ g, ca = some ⟨g, 0, none⟩ ∧ g < w.heap.size ∧ w.cell? ⟨g, k * 9 + 5, none⟩ = some (.int .i64 c.stop) := by
    intro k c hk
    have hpos : 0 < calls.length := by have := (List.getElem?_eq_some_iff.1 hk).1; omega
    obtain ⟨g, cap, rest, hv, rfl, _⟩ := row_open q1 hpos
    injection hv with hv _ _
    have h2 := h.of_eq (show _ = pt g (.cells (arr encCall calls rest) 66 (0, 0)) + (St + Sw + F) from by ac_rfl)
    exact ⟨g, hv, h2.lt, by rw [h2.cell, arr_get encCall_len hk (by decide)]; rfl⟩
  have HC := Lib.hid hcell
  have hm : (calls.length : Int) ≤ 100000 := by omega
  clear hcell q1 q2 q3 h
  go_enter Try.func26, Try.ntmps26
  go_wp2
  go_loop [3] (fun i => ∃ k : Nat, k ≤ calls.length ∧ i = .int .i64 k ∧ ∀ (j : Nat) (c : ACall), calls[j]? = some c → j < k → 0 ≤ c.stop) (fun i => calls.length - (intOf i).toNat)
  case atStart => exact ⟨0, Nat.zero_le _, rfl, fun j c _ hj => absurd hj (Nat.not_lt_zero _)⟩
  case round =>
    obtain ⟨k, hk, rfl, hq⟩ := hrel
    have HQ := Lib.hid hq
    clear hq
    by_cases hlt : k < calls.length
    · have hx := List.getElem?_eq_getElem hlt
      generalize calls[k] = c at hx
      obtain ⟨g, rfl, hg, hc⟩ := HC.out k c hx
      have HX := Lib.hid hx
      clear hx
      by_cases hs : c.stop < 0
      · have HE := Lib.hid (quietB_false HX.out hs)
        go_wp2
        go_ret
        exact ⟨by rw [HE.out]; rfl, (Below.refl _ _).alloc (Nat.le_refl _) _⟩
      · go_wp2
        go_round
        case rel =>
          refine ⟨k + 1, by omega, by go_num, fun j d hd hj => ?_⟩
          by_cases e : j = k
          · subst e
            rw [HX.out] at hd; injection hd with hd; subst hd; omega
          · exact HQ.out j d hd (by omega)
        case measure => simp [intOf]; omega
    · have e := quietB_true (calls := calls) (fun j c hj hl => HQ.out j c hj (by omega))
      have HE := Lib.hid e
      clear e
      go_wp2
      go_ret
      exact ⟨by rw [HE.out]; rfl, (Below.refl _ _).alloc (Nat.le_refl _) _⟩

def ints (l : List Int) : List Value := l.map (Value.int .i64)
theorem ints_one (l : List Int) : ∀ u ∈ ints l, u.oneCell' = true := fun u hu => by simp only [ints, List.mem_map] at hu; obtain ⟨x, _, rfl⟩ := hu; rfl
theorem ints_append (l k : List Int) : ints (l ++ k) = ints l ++ ints k := by simp [ints]

/-- The words of a row, read as ints. -/
theorem word_cell {W w : World} {F : Hp} {g : Nat} {ws : List Int} {rest : List Value} {t : TypeId} {fr : Nat × Nat} (h : Holds W w (pt g (.cells (u64s (ws.map un) ++ rest).toArray t fr) + F)) (i : Nat) (hi : i < ws.length) :
    w.cell? ⟨g, i, none⟩ = some (.int .u64 (un (wd ws i))) := by
  rw [u64s_cell h i (by simpa using hi), wd_map]

theorem quiet_fact {P : Program} {f : FuncId} {args : Array Value} {w : World} {n : Nat} {v : Value} (h : Calls P f args (w.drewN n) fun e w' => w.drewN n = w' ∧ e = .returned v) :
    Calls P f args (w.drewN n) fun e w'' => e = .returned v ∧ ∃ m, w'' = w.drewN m := h.mono fun _ _ ⟨hm, he⟩ => ⟨he, n, hm.symm⟩

def LeftPost (W : World) (l : List Int) (S : Hp) (e : Ending) (w' : World) : Prop := ∃ v S', e = .returned (.tuple #[v, .int .i64 0]) ∧ RowAt 3 1 v l.length (ints l) S' ∧ Holds W w' (S' + S)

/-- Behind some rounds of Left's loop. -/
def LeftI (W : World) (G : Hp) (l : List Int) (v : Value) (wr : World) : Prop := ∃ S', RowAt 3 1 v l.length (ints l) S' ∧ Holds W wr (S' + G)
def leftG (g bd : Nat) (n room : Int) (ws : List Int) (rest : List Value) (F : Hp) : Hp := pt g (.cells (u64s (ws.map un) ++ rest).toArray 82 (0, 0)) + (pt bd (.cells #[.int .i64 n, .int .i64 room] 23 (0, 0)) + F)
theorem LeftI.start {W w : World} {G : Hp} (h : Holds W w G) : LeftI W G [] (.slice none 0 0) w := ⟨emp, RowAt.nil _ _, h.of_eq (Hp.emp_add _).symm⟩
theorem valsOf_len (ws : List Int) (room a b : Int) : (DM.valsOf ws room a b).length = (b - a).toNat := by unfold DM.valsOf; simp

set_option maxHeartbeats 1000000 in
set_option maxRecDepth 100000 in
theorem left_ok (W w : World) (n room : Nat) (hok : okD n room) (ws : List Int) (wv : Value) (S F : Hp) (hlen : ws.length = 2 + room) (h64 : ∀ i, I64 (wd ws i)) (ht : 0 ≤ wd ws 0 ∧ wd ws 0 ≤ 65536) (hb : wd ws 0 - 1 ≤ wd ws 1 ∧ wd ws 1 ≤ wd ws 0 + room)
    (hrow : RowAt 82 1 wv (ws.map un).length (u64s (ws.map un)) S) (h : Holds W w (S + F)) :
    Calls Try.prog 27 #[dqV n room, wv] w (LeftPost W (DM.valsOf ws room (wd ws 0) (wd ws 1)) (S + F)) := by
  obtain ⟨g, cap, rest, rfl, k1, k2, k3, rfl⟩ := hrow.some (by rw [List.length_map]; omega)
  rw [List.length_map] at k1 ⊢
  have hr : 1 ≤ room ∧ room ≤ 256 := by unfold okD at hok; omega
  have h1 := h.new w.heap.size rfl (.cells #[.int .i64 (n : Int), .int .i64 (room : Int)] 23 (0, 0))
  have HO := Lib.hid hok
  have HL := Lib.hid hlen
  have H1 := Lib.hid h1
  have H64 := Lib.hid h64
  clear hok h h64 hrow k2 k3
  have hq : ((2 + room : Nat) : Int) = 2 + (room : Int) := by omega
  unfold dqV
  go_enter Try.func27, Try.ntmps27
  go_wp2_with fail
  refine (may_at W _ n room _ H1.out).mono ?_
  rintro e w1 ⟨rfl, h2⟩
  rw [decide_eq_true HO.out]
  have c0 : w1.cell? ⟨w.heap.size, 0, none⟩ = some (.int .i64 n) := by rw [h2.cell]; rfl
  have c1 : w1.cell? ⟨w.heap.size, 1, none⟩ = some (.int .i64 room) := by rw [h2.cell]; rfl
  have h3 := h2.of_eq (show _ = pt g (.cells (u64s (ws.map un) ++ rest).toArray 82 (0, 0)) + (pt w.heap.size (.cells #[.int .i64 (n : Int), .int .i64 (room : Int)] 23 (0, 0)) + F) from by ac_rfl)
  have g0 : w1.cell? ⟨g, 0, none⟩ = some (.int .u64 (un (wd ws 0))) := word_cell h3 0 (by omega)
  have g1 : w1.cell? ⟨g, 1, none⟩ = some (.int .u64 (un (wd ws 1))) := word_cell h3 1 (by omega)
  have H3 := Lib.hid h3
  have p2 : (0 : Int) < (ws.length : Int) := by omega
  have p3 : (1 : Int) < (ws.length : Int) := by omega
  clear h2 h3 H1
  go_wp2_with fail
  go_quiet ((go_at_call 61; exact quiet_fact (value_at _ (H64.out _) _)))
  have H4 := Lib.hid (H3.out.drewN nq)
  have HT := Lib.hid ht
  have HB := Lib.hid hb
  obtain ⟨ht0, ht1⟩ := ht
  obtain ⟨hb0, hb1⟩ := hb
  clear g0 g1 c0 H3 p2 p3 h1 k1 hq hlen
  go_wp2_with fail
  go_loopw [8, 9] (fun v i wr => ∃ z : Int, wd ws 0 ≤ z ∧ (z ≤ wd ws 1 ∨ z = wd ws 0) ∧ i = .int .i64 z ∧ LeftI W (leftG g w.heap.size n room ws rest F) (DM.valsOf ws room (wd ws 0) z) v wr) (fun _ i _ => (wd ws 1 - intOf i).toNat)
  case atStart => exact ⟨wd ws 0, Int.le_refl _, .inr rfl, rfl, by rw [DM.vals_nil (Int.le_refl _)]; exact LeftI.start H4.out⟩
  case round =>
    obtain ⟨z, hz0, hz1, rfl, S', hr', h5⟩ := hrel
    clear H4 c1
    have HZ := Lib.hid hz1
    clear hz1
    by_cases hlt : z < wd ws 1
    · have he0 := Int.emod_nonneg z (show (room : Int) ≠ 0 by omega)
      have he1 := Int.emod_lt_of_pos z (show (0 : Int) < room by omega)
      obtain ⟨j, hj⟩ := Int.eq_ofNat_of_zero_le (show 0 ≤ 2 + z % (room : Int) by omega)
      have hjl : j < ws.length := by rw [HL.out]; omega
      have hcell : wd ws j = DM.cellOf ws room z := by unfold DM.cellOf; rw [hj, Int.toNat_natCast]
      have h6 := h5.of_eq (show _ = pt g (.cells (u64s (ws.map un) ++ rest).toArray 82 (0, 0)) + (S' + (pt w.heap.size (.cells #[.int .i64 n, .int .i64 room] 23 (0, 0)) + F)) from by unfold leftG; ac_rfl)
      have h7 := h5.of_eq (show _ = pt w.heap.size (.cells #[.int .i64 n, .int .i64 room] 23 (0, 0)) + (pt g (.cells (u64s (ws.map un) ++ rest).toArray 82 (0, 0)) + (S' + F)) from by unfold leftG; ac_rfl)
      have c1 : wr.cell? ⟨w.heap.size, 1, none⟩ = some (.int .i64 room) := by rw [h7.cell]; rfl
      have g2 : wr.cell? ⟨g, j, none⟩ = some (.int .u64 (un (wd ws j))) := word_cell h6 j hjl
      have hjl2 : (j : Int) < (ws.length : Int) := by omega
      have hj9 : (j : Int) ≤ 9223372036854775807 := by omega
      have hjl3 : (j : Int) < 2 + (room : Int) := by omega
      have HC := Lib.hid hcell
      have H5 := Lib.hid h5
      have HR := Lib.hid hr'
      have hp : (0 : Int) < (room : Int) := by omega
      have hlen1 : (DM.valsOf ws room (wd ws 0) z).length ≤ 300 := by rw [valsOf_len]; omega
      obtain ⟨i0, hi, hy0, hy1, hy2⟩ := info_parts infoInt
      clear hcell h5 h6 h7 hr' hjl he0 he1
      go_wp2_with fail
      refine (value_at _ (H64.out _) _).mono ?_
      rintro e w' ⟨rfl, rfl⟩
      go_wp2_with (at_builtin; go_must (refine wpList_append_one (W := W) (F := leftG g w.heap.size n room ws rest F) rfl (.tmp 53) (.tmp 63) 51 rfl 3 i0 _ 1 8 Try.underlying51 hi hy0 hy1 hy2 rfl (by decide) _ _ _ _ rfl HR.out wr.heap.size 1 3 [.int .i64 (wd ws j)] rfl rfl (by simp [Value.oneCell']) ?b1 ?b2 ((H5.out.new wr.heap.size rfl (.cells #[.int .i64 (wd ws j)] 3 (0, 0))).of_eq (by ac_rfl)) ?k))
      case b1 => unfold maxLen; omega
      case b2 => omega
      case k =>
        intro g3 cap3 w4 S4 q1 q2
        have Q : Hid (LeftI W (leftG g w.heap.size n room ws rest F) (DM.valsOf ws room (wd ws 0) (z + 1)) (.slice (some ⟨g3, 0, none⟩) ((DM.valsOf ws room (wd ws 0) z).length + 1) cap3) w4) := by
          rw [DM.vals_snoc hz0, ← HC.out]
          refine ⟨S4, ?_, q2⟩
          rw [ints_append, List.length_append]
          exact q1
        clear q1 q2
        go_wp2_with fail
        go_roundw
        case rel => exact ⟨z + 1, by omega, .inl (by omega), rfl, Q.out⟩
        case measure => simp [intOf]; omega
    · go_wp2_with fail
      go_ret2
      have : DM.valsOf ws room (wd ws 0) (wd ws 1) = DM.valsOf ws room (wd ws 0) z := by
        rcases HZ.out with hz | hz
        · rw [show wd ws 1 = z from by omega]
        · rw [hz, DM.vals_nil (by omega), DM.vals_nil (by omega)]
      rw [this]
      refine ⟨_, S', rfl, hr', (h5.of_eq (show _ = S' + (pt g (.cells (u64s (ws.map un) ++ rest).toArray 82 (0, 0)) + F) + pt w.heap.size (.cells #[.int .i64 n, .int .i64 room] 23 (0, 0)) from by unfold leftG; ac_rfl)).left⟩

end Go.Proofs.Ythifeaigdobonaa
