/- DequeOnce: the walk. -/
import Derived.Test.YthifeaigdobonaaQui
import Derived.Test.YthifeaigdobonaaApn
import Derived.Test.YthifeaigdobonaaMat
import Derived.Deep.CutBlock
namespace Go.Proofs.Ythifeaigdobonaa
open Go.RowKit

def insOf (l : List ACall) : List Int := l.filterMap DM.insF
def outsOf (l : List ACall) : List Int := l.filterMap DM.outF
theorem ins_take {l : List ACall} {k : Nat} {c : ACall} (h : l[k]? = some c) : insOf (l.take (k + 1)) = insOf (l.take k) ++ (DM.insF c).toList := by
  unfold insOf; rw [List.take_add_one, h, List.filterMap_append]; cases hf : DM.insF c <;> simp [hf]
theorem outs_take {l : List ACall} {k : Nat} {c : ACall} (h : l[k]? = some c) : outsOf (l.take (k + 1)) = outsOf (l.take k) ++ (DM.outF c).toList := by
  unfold outsOf; rw [List.take_add_one, h, List.filterMap_append]; cases hf : DM.outF c <;> simp [hf]

theorem insOf_le (l : List ACall) : (insOf l).length ≤ l.length := List.length_filterMap_le _ _
theorem outsOf_le (l : List ACall) : (outsOf l).length ≤ l.length := List.length_filterMap_le _ _

/-- The cells of a call of a run. -/
theorem call_cells {W w : World} {Sc F : Hp} {calls : List ACall} {A : Option Addr} {n c : Nat} (hC : RowAt 66 9 (.slice A n c) calls.length (rows encCall calls) Sc) (h : Holds W w (Sc + F)) {k : Nat} {x : ACall} (hk : calls[k]? = some x) :
    ∃ g, A = some ⟨g, 0, none⟩ ∧ g < w.heap.size ∧ ∀ j, j < 9 → w.cell? ⟨g, k * 9 + j, none⟩ = (encCall x)[j]? := by
  obtain ⟨g, cap, rest, hv, rfl, _⟩ := row_open hC (by have := (List.getElem?_eq_some_iff.1 hk).1; omega)
  injection hv with hv _ _
  exact ⟨g, hv, h.lt, fun j hj => by rw [h.cell]; exact arr_get encCall_len hk hj⟩

/-- Behind k rounds of the loop that gathers what was put in and what was got out. -/
def OnceI (w : World) (G : Hp) (calls : List ACall) (l : List Int) (k : Nat) (vi vo : Value) (wr : World) : Prop :=
  ∃ Si So, RowAt 3 1 vi (insOf (calls.take k)).length (ints (insOf (calls.take k))) Si ∧ RowAt 3 1 vo (l ++ outsOf (calls.take k)).length (ints (l ++ outsOf (calls.take k))) So ∧ Holds w wr (Si + (So + G))

theorem OnceI.same {w : World} {G : Hp} {calls : List ACall} {l : List Int} {k : Nat} {vi vo : Value} {wr : World} {c : ACall} (h : OnceI w G calls l k vi vo wr) (hc : calls[k]? = some c) (h1 : DM.insF c = none) (h2 : DM.outF c = none) (o : Obj) : OnceI w G calls l (k + 1) vi vo (wr.alloc o) := by
  obtain ⟨Si, So, r1, r2, r3⟩ := h
  refine ⟨Si, So, ?_, ?_, (r3.alloc o).right⟩
  · rw [ins_take hc, h1]; simpa using r1
  · rw [outs_take hc, h2]; simpa using r2

theorem OnceI.put {w : World} {G X : Hp} {calls : List ACall} {l il ol : List Int} {k : Nat} {vi vo : Value} {w8 : World} {c : ACall} {Si So : Hp} (hc : calls[k]? = some c) (h1 : DM.insF c = some c.arg) (h2 : DM.outF c = none) (hil : insOf (calls.take k) = il) (hol : l ++ outsOf (calls.take k) = ol)
    (ri : RowAt 3 1 vi (il.length + 1) (ints il ++ [.int .i64 c.arg]) Si) (ro : RowAt 3 1 vo ol.length (ints ol) So) (h : Holds w w8 (Si + (So + (X + G)))) : OnceI w G calls l (k + 1) vi vo w8 := by
  refine ⟨Si, So, ?_, ?_, (h.of_eq (show _ = Si + (So + G) + X from by ac_rfl)).left⟩
  · rw [ins_take hc, h1, hil, ints_append, List.length_append]; exact ri
  · rw [outs_take hc, h2, ← List.append_assoc, hol]; simpa using ro
theorem OnceI.got {w : World} {G X : Hp} {calls : List ACall} {l il ol : List Int} {k : Nat} {vi vo : Value} {w8 : World} {c : ACall} {Si So : Hp} (hc : calls[k]? = some c) (h1 : DM.insF c = none) (h2 : DM.outF c = some c.av) (hil : insOf (calls.take k) = il) (hol : l ++ outsOf (calls.take k) = ol)
    (ri : RowAt 3 1 vi il.length (ints il) Si) (ro : RowAt 3 1 vo (ol.length + 1) (ints ol ++ [.int .i64 c.av]) So) (h : Holds w w8 (So + (Si + (X + G)))) : OnceI w G calls l (k + 1) vi vo w8 := by
  refine ⟨Si, So, ?_, ?_, (h.of_eq (show _ = Si + (So + G) + X from by ac_rfl)).left⟩
  · rw [ins_take hc, h1, hil]; simpa using ri
  · rw [outs_take hc, h2, ← List.append_assoc, hol, ints_append, List.length_append]; exact ro

/-- Behind k rounds of the loop that matches. -/
def MatI (w : World) (G : Hp) (il : List Int) (A : Option Addr) (c : Nat) (Si : Hp) (k : Nat) (wr : World) : Prop :=
  ∃ o So, il.Perm o ∧ (∀ j, j < k → o[j]? = il[j]?) ∧ RowAt 3 1 (.slice A il.length c) il.length (ints o) So ∧ Holds w wr (Si + (So + G))
/-- The place that the inner loop has found so far. -/
def AtOK (o : List Int) (x : Int) (k j : Nat) (v : Value) : Prop := (v = .int .i64 (-1) ∧ ∀ i, k ≤ i → i < j → o[i]? ≠ some x) ∨ ∃ a : Nat, k ≤ a ∧ v = .int .i64 a ∧ o[a]? = some x

def rbox (rb : Nat) (x0 x1 x3 : Value) : Hp := pt rb (.cells #[x0, x1, .slice none 0 0, x3] 33 (0, 0))

def dbox (w : World) (n room : Int) : Hp := pt w.heap.size (.cells #[.int .i64 n, .int .i64 room] 23 (0, 0))
def OncePost (w : World) (e : Ending) (w' : World) : Prop := e = .returned (.bool true) ∧ Below w.heap.size w w'
def onceArgs (th room : Int) (a : Option Addr) (len cap : Nat) : Array Value := #[dqV th room, .slice a len cap]

set_option maxRecDepth 1000000 in
/-- What does not fit. -/
theorem once_unfit (w : World) (th room : Int) (a : Option Addr) (len cap : Nat) (hl : len ≤ maxLen) (hno : ¬ (okD th room ∧ len ≤ 65536)) : Calls Try.prog 5 (onceArgs th room a len cap) w (OncePost w) := by
  have HN := Lib.hid hno
  have HL := Lib.hid hl
  clear hno hl
  unfold onceArgs dqV
  go_enter Try.func5, Try.ntmps5
  go_wp2_with fail
  refine (fits_at _ th room a len cap HL.out).mono ?_
  rintro e w1 ⟨rfl, hb⟩
  rw [decide_eq_false HN.out]
  have HB := Lib.hid hb
  clear hb
  go_wp2_with fail
  refine (awake_yes _).mono ?_
  rintro e w2 ⟨rfl, hb2⟩
  go_wp2_with fail
  go_ret
  exact ⟨rfl, (((Below.refl _ _).alloc (Nat.le_refl _) _).trans (HB.out.mono (by simp))).trans (hb2.mono (by have := HB.out.size; simp at this; omega))⟩

/-- As much of the script as the law plays. -/
def onceMvs (mvs : List DM.Mv) : List DM.Mv := mvs.take 65280
theorem onceMvs_of {mvs : List DM.Mv} {k : Nat} (h : ¬ (k < mvs.length ∧ (k : Int) < 65280)) (hk : k ≤ mvs.length) (hk2 : (k : Int) ≤ 65280) : mvs.take k = onceMvs mvs := by
  unfold onceMvs
  by_cases e : k = 65280
  · rw [e]
  · rw [List.take_of_length_le (by omega), List.take_of_length_le (by omega)]
theorem onceMvs_len (mvs : List DM.Mv) : ((onceMvs mvs).length : Int) ≤ 65280 := by unfold onceMvs; rw [List.length_take]; omega

set_option maxHeartbeats 1000000 in
set_option maxRecDepth 1000000 in
theorem once_in (w : World) (n room : Nat) (a : Option Addr) (len cap : Nat) (mvs : List DM.Mv) (hm : MovesIn w a len mvs) (hl : len ≤ 65536) (hok : okD n room) :
    Calls Try.prog 5 (onceArgs n room a len cap) w (OncePost w) := by
  have hlen : len = mvs.length := hm.1
  have h1 := (Holds.self w).new w.heap.size rfl (.cells #[.int .i64 (n : Int), .int .i64 (room : Int)] 23 (0, 0))
  have hn16 : n ≤ 16 := by unfold okD at hok; omega
  have HM := Lib.hid hm
  have HL := Lib.hid hlen
  have HO := Lib.hid hok
  have H1 : Hid (Holds w _ (dbox w n room)) := Lib.hid (h1.of_eq (Hp.add_emp _))
  clear hm hlen hok h1
  unfold onceArgs dqV
  go_enter Try.func5, Try.ntmps5
  go_wp2_with fail
  refine (fits_at _ n room a len cap (by unfold maxLen; omega)).mono ?_
  rintro e w1 ⟨rfl, hb⟩
  rw [decide_eq_true (p := okD n room ∧ len ≤ 65536) ⟨HO.out, by omega⟩]
  have h2 := H1.out.of_below hb
  have c0 : w1.cell? ⟨w.heap.size, 0, none⟩ = some (.int .i64 n) := by unfold dbox at h2; rw [(h2.of_eq (Hp.add_emp _).symm).cell]; rfl
  have c1 : w1.cell? ⟨w.heap.size, 1, none⟩ = some (.int .i64 room) := by unfold dbox at h2; rw [(h2.of_eq (Hp.add_emp _).symm).cell]; rfl
  have H2 := Lib.hid h2
  clear hb h2 H1
  go_wp2_with fail
  refine (deque_made w _ n room _ HO.out H2.out).mono ?_
  rintro e w2 ⟨p, rfl, hp⟩
  have HP := Lib.hid hp
  clear hp c0 c1
  go_wp2_with fail
  refine (num_at _ _).mono ?_
  rintro e w' ⟨rfl, rfl⟩
  go_wp2_with fail
  refine (awake_yes _).mono ?_
  rintro e w3 ⟨rfl, hb3⟩
  have HP3 : Hid (Plays w p ((DM.init n room).runs (mvs.take 0)) (dbox w n room) w3) := HP.out.of_below hb3
  clear hb3 HP H2
  go_upto_block 0 with fail
  go_cut [7] from 41 to 56 (fun _ wx => Plays w p ((DM.init n room).runs (onceMvs mvs)) (dbox w n room) wx)
  case first =>
    go_wp2_with fail
    go_loopw [7] (fun i wr => ∃ k : Nat, k ≤ len ∧ (k : Int) ≤ 65280 ∧ i = .int .i64 k ∧ Plays w p ((DM.init n room).runs (mvs.take k)) (dbox w n room) wr) (fun i _ => len - (intOf i).toNat)
    case atStart => exact ⟨0, Nat.zero_le _, by decide, rfl, HP3.out⟩
    case round =>
      obtain ⟨k, hk, hk2, rfl, hp⟩ := hrel
      clear HP3
      by_cases hlt : k < len ∧ (k : Int) < 65280
      · obtain ⟨hlt, hlt2⟩ := hlt
        have hkm : k < mvs.length := by rw [← HL.out]; exact hlt
        have hx := List.getElem?_eq_getElem hkm
        generalize mvs[k] = u at hx
        obtain ⟨b, off, rfl, hok, e0, e1, e2, e3⟩ := HM.out.at hp.holds hx
        have HX := Lib.hid hx
        have HP := Lib.hid hp
        have HU := Lib.hid hok.2.2.1
        clear hx hp hok hkm
        go_wp2_with fail
        refine (deque_mv w _ p u HU.out HP.out).mono ?_
        rintro e w' ⟨rfl, hp'⟩
        have HP' : Hid (Plays w p ((DM.init n room).runs (mvs.take (k + 1))) (dbox w n room) w') := by rw [DM.runs_take _ _ HX.out]; exact hp'
        clear hp'
        go_wp2_with fail
        go_roundw
        case rel => exact ⟨k + 1, by omega, by omega, by go_num, HP'.out⟩
        case measure => simp [intOf]; omega
      · have hpt : Plays w p ((DM.init n room).runs (onceMvs mvs)) (dbox w n room) wr := by
          rw [← onceMvs_of (k := k) (by rw [← HL.out]; exact hlt) (by rw [← HL.out]; exact hk) hk2]; exact hp
        have HP := Lib.hid hpt
        have hlt' : k < len → (65280 : Int) ≤ k := fun h => by omega
        clear hp hpt hlt
        rcases Nat.lt_or_ge k len with hkl | hkl
        all_goals
          go_wp2_with fail
          go_meet
          exact HP.out
  case rest =>
    have hm1 : Hid ((DM.init n room).runs (onceMvs mvs)).Deep := (DM.Deep.start n room (by have := HO.out; unfold okD at this; omega) (by have := HO.out; unfold okD at this; omega) (by have := HO.out; unfold okD at this; omega) (by have := HO.out; unfold okD at this; omega)).runs _ (fun u hu => (HM.out.2.2.1 u (List.mem_of_mem_take hu)).2.2.1)
    have hmv1 : Hid (((DM.init n room).runs (onceMvs mvs)).moves ≤ 65280) := by
      have := onceMvs_len mvs
      show ((DM.init n room).runs (onceMvs mvs)).moves ≤ 65280
      rw [DM.runs_moves _ (by show (0 : Int) + _ ≤ _; omega)]; show (0 : Int) + _ ≤ _; omega
    have hal1 : Hid (((DM.init n room).runs (onceMvs mvs)).all.length = n) := by show _ = _; rw [DM.runs_len]; simp [DM.init]
    have hro1 : Hid (((DM.init n room).runs (onceMvs mvs)).room = room) := DM.runs_room _ _
    generalize (DM.init n room).runs (onceMvs mvs) = m1 at hcut hm1 hmv1 hal1 hro1
    have HP := Lib.hid (show Plays w p (m1.runs (DM.rounds 8 0 0)) (dbox w n room) wc from hcut)
    clear hcut HP3
    go_wp2_with fail
    go_loopw [8, 9] (fun i _ wr => ∃ k : Nat, k ≤ n ∧ i = .int .i64 k ∧ Plays w p (m1.runs (DM.rounds 8 0 k)) (dbox w n room) wr) (fun i _ _ => n - (intOf i).toNat)
    case atStart => exact ⟨0, Nat.zero_le _, rfl, HP.out⟩
    case round =>
      obtain ⟨k, hk, rfl, hp⟩ := hrel
      have c0 : wr.cell? ⟨w.heap.size, 0, none⟩ = some (.int .i64 n) := by have := hp.holds; unfold dbox at this; rw [(this.of_eq (Hp.add_emp _).symm).cell]; rfl
      have HP2 := Lib.hid (show Plays w p ((m1.runs (DM.rounds 8 0 k)).runs (DM.turns k 0)) (dbox w n room) wr from hp)
      clear hp HP
      by_cases hlt : k < n
      · go_wp2_with fail
        obtain ⟨wo, rfl⟩ : ∃ wo : World, wo = wr := ⟨_, rfl⟩
        go_loopw [9] (fun i wy => ∃ j : Nat, j ≤ 8 ∧ i = .int .i64 j ∧ Plays w p ((m1.runs (DM.rounds 8 0 k)).runs (DM.turns k j)) (dbox w n room) wy) (fun i _ => 8 - (intOf i).toNat)
        case atStart => exact ⟨0, Nat.zero_le _, rfl, HP2.out⟩
        case round =>
          obtain ⟨j, hj, rfl, hp⟩ := hrel
          have HP := Lib.hid hp
          clear hp HP2
          by_cases hj8 : j < 8
          · go_wp2_with fail
            refine (deque_mv w _ p (stepMv k) step_ok HP.out).mono ?_
            rintro e w' ⟨rfl, hp'⟩
            have HP' : Hid (Plays w p ((m1.runs (DM.rounds 8 0 k)).runs (DM.turns k (j + 1))) (dbox w n room) w') := by unfold DM.turns; rw [List.replicate_succ']; exact hp'.moved
            clear hp'
            go_wp2_with fail
            go_roundw
            case rel => exact ⟨j + 1, by omega, by go_num, HP'.out⟩
            case measure => simp [intOf]; omega
          · have hje : j = 8 := by omega
            subst hje
            have HP' : Hid (Plays w p (m1.runs (DM.rounds 8 0 (k + 1))) (dbox w n room) wr) := by rw [DM.rounds_snoc, DM.runs_append, Nat.zero_add]; exact HP.out
            go_wp2_with fail
            go_roundw
            case rel => exact ⟨k + 1, by omega, by go_num, HP'.out⟩
            case measure => simp [intOf]; omega
      · have hke : n = k := by omega
        subst hke
        have HP3 : Hid (Plays w p (m1.runs (DM.rounds 8 0 n)) (dbox w n room) wr) := HP2.out
        have honce := DM.once hm1.out (by rw [hal1.out]; have := hmv1.out; omega)
        rw [hal1.out, hro1.out] at honce
        have HQ := Lib.hid honce
        have hinv := honce.1.inv
        have hroom2 : (m1.runs (DM.rounds 8 0 n)).room = room := by rw [DM.runs_room]; exact hro1.out
        have HR2 := Lib.hid hroom2
        generalize m1.runs (DM.rounds 8 0 n) = m2 at HP3 HQ hinv hroom2 HR2
        have HI := Lib.hid hinv
        clear HP2 honce hinv hroom2
        go_wp2_with fail
        refine (deque_run w _ p HP3.out).mono ?_
        rintro e w4 ⟨v, S', rfl, hR, hp4⟩
        obtain ⟨cv, tv, wv, Sc, St, Sw, rfl, q1, q2, q3, rfl⟩ := hR
        obtain ⟨ca, cc, rfl⟩ := q1.form
        obtain ⟨ta, tc, rfl⟩ := q2.form
        obtain ⟨wa, wc, rfl⟩ := q3.form
        have h4 := hp4.holds
        have HR := Lib.hid (show RunAt _ _ _ _ (Sc + (St + Sw)) from ⟨_, _, _, Sc, St, Sw, rfl, q1, q2, q3, rfl⟩)
        have HC := Lib.hid q1
        have HW := Lib.hid q3
        have H4 := Lib.hid h4
        rw [List.length_map] at HR
        have hcl : (m2.calls.length : Int) ≤ 65536 := by have := HI.out.ncalls; have := HI.out.mv; omega
        clear q1 q2 q3 h4 hp4 HP3 c0
        go_wp2_with fail
        refine (quiet_at w _ _ m2.calls m2.trace (m2.words.map un) _ (dbox w n room) (by omega) HR.out ((H4.out.alloc _).right)).mono ?_
        rintro e w5 ⟨rfl, hb5⟩
        have hqb : quietB m2.calls = true := quietB_true (fun j c hj _ => HQ.out.2.1 c (List.mem_of_getElem? hj))
        rw [hqb]
        have h5 := (H4.out.new w4.heap.size rfl (.cells #[.slice ca m2.calls.length cc, .slice ta m2.trace.length tc, .slice none 0 0, .slice wa m2.words.length wc] 33 (0, 0))).of_below hb5
        have d0 : w5.cell? ⟨w.heap.size, 0, none⟩ = some (.int .i64 n) := by rw [(h5.of_eq (show _ = pt w.heap.size (.cells #[.int .i64 (n : Int), .int .i64 (room : Int)] 23 (0, 0)) + (pt w4.heap.size (.cells #[.slice ca m2.calls.length cc, .slice ta m2.trace.length tc, .slice none 0 0, .slice wa m2.words.length wc] 33 (0, 0)) + (Sc + (St + Sw))) from by unfold dbox; ac_rfl)).cell]; rfl
        have d1 : w5.cell? ⟨w.heap.size, 1, none⟩ = some (.int .i64 room) := by rw [(h5.of_eq (show _ = pt w.heap.size (.cells #[.int .i64 (n : Int), .int .i64 (room : Int)] 23 (0, 0)) + (pt w4.heap.size (.cells #[.slice ca m2.calls.length cc, .slice ta m2.trace.length tc, .slice none 0 0, .slice wa m2.words.length wc] 33 (0, 0)) + (Sc + (St + Sw))) from by unfold dbox; ac_rfl)).cell]; rfl
        have r3 : w5.cell? ⟨w4.heap.size, 3, none⟩ = some (.slice wa m2.words.length wc) := by rw [h5.cell]; rfl
        have H5 := Lib.hid h5
        clear hb5 h5 hqb H4
        go_wp2_with fail
        have hw : RowAt 82 1 (.slice wa m2.words.length wc) (m2.words.map un).length (u64s (m2.words.map un)) Sw := by have := HW.out; rw [List.length_map] at this ⊢; exact this
        have hdp := HQ.out.1
        have hdn := HQ.out.2.2.1
        have hle := hdp.le
        have hsz := hdp.size
        rw [DM.end_neg hdn] at hle hsz
        have hE : HR2.out = HR2.out := rfl
        refine (left_ok w _ n room HO.out m2.words _ Sw (rbox w4.heap.size (.slice ca m2.calls.length cc) (.slice ta m2.trace.length tc) (.slice wa m2.words.length wc) + (Sc + (dbox w n room))) (by have := HI.out.len; have := HR2.out; omega) HI.out.w64
          (by have := HI.out.top; have := HI.out.mv; omega) (by have := HR2.out; omega) hw ((H5.out.of_eq (show _ = Sw + (rbox w4.heap.size (.slice ca m2.calls.length cc) (.slice ta m2.trace.length tc) (.slice wa m2.words.length wc) + (Sc + (dbox w n room))) + St from by unfold rbox; ac_rfl)).left)).mono ?_
        rintro e w6 ⟨lv, Sl, rfl, hl1, hl2⟩
        obtain ⟨la, lc, rfl⟩ := hl1.form
        have hperm := HQ.out.2.2.2
        have hlen : (DM.valsOf m2.words room (wd m2.words 0) (wd m2.words 1)).length ≤ 300 := by rw [valsOf_len]; have := HR2.out; have := HO.out; unfold okD at this; omega
        generalize DM.valsOf m2.words room (wd m2.words 0) (wd m2.words 1) = l at hl1 hperm hlen
        have HPM := Lib.hid hperm
        have HL1 := Lib.hid hl1
        have hl3 := hl2.of_eq (show _ = Sl + (rbox w4.heap.size (.slice ca m2.calls.length cc) (.slice ta m2.trace.length tc) (.slice wa m2.words.length wc) + (Sc + dbox w n room)) + Sw from by ac_rfl)
        have HL2 := Lib.hid hl3.left
        clear hw hdp hdn hle hsz hE hl1 hl2 hl3 hperm d0 d1 r3 H5
        go_wp2_with fail
        refine (num_at _ _).mono ?_
        rintro e w' ⟨rfl, rfl⟩
        obtain ⟨i0, hi, hz0, hz1, hz2⟩ := info_parts infoInt
        go_wp2_with (at_builtin; go_must (refine wpList_append_flow (W := w) (F := Sl + (rbox w4.heap.size (.slice ca m2.calls.length cc) (.slice ta m2.trace.length tc) (.slice wa m2.words.length wc) + (Sc + dbox w n room))) rfl (.tmp 86) (.tmp 87) 51 rfl 3 i0 _ 1 8 Try.underlying51 hi hz0 hz1 hz2 rfl (by decide) (.slice (some ⟨w6.heap.size, 0, none⟩) 0 0) 0 [] _ rfl (RowAt.mk 3 1 w6.heap.size 0 0 [] [] rfl (by decide) (by decide) rfl) (HL2.out.new w6.heap.size rfl (.cells #[] 3 (0, 0))) la l.length lc (ints l) rfl ?fl1 ?fl2 ?fl3 (ints_one l) ?fl4 ?fl5 ?flk))
        case fl1 => exact (row_src HL1.out HL2.out).1
        case fl2 => exact (row_src HL1.out HL2.out).2.1
        case fl3 => exact (row_src HL1.out (HL2.out.alloc _).right).2.2
        case fl4 => unfold maxLen; omega
        case fl5 => omega
        case flk =>
          intro oa oc w7 So r1 r2
          have HI0 : Hid (OnceI w (rbox w4.heap.size (.slice ca m2.calls.length cc) (.slice ta m2.trace.length tc) (.slice wa m2.words.length wc) + (Sc + dbox w n room)) m2.calls l 0 (.slice none 0 0) (.slice oa l.length oc) w7) :=
            ⟨emp, So, RowAt.nil _ _, by simpa [outsOf] using r1, (r2.of_eq (show _ = (emp + (So + (rbox w4.heap.size (.slice ca m2.calls.length cc) (.slice ta m2.trace.length tc) (.slice wa m2.words.length wc) + (Sc + dbox w n room)))) + Sl from by rw [Hp.emp_add]; ac_rfl)).left⟩
          clear r1 r2
          obtain ⟨G, hG⟩ : ∃ G, rbox w4.heap.size (.slice ca m2.calls.length cc) (.slice ta m2.trace.length tc) (.slice wa m2.words.length wc) + (Sc + dbox w n room) = G := ⟨_, rfl⟩
          rw [hG] at HI0
          have HG := Lib.hid hG
          have hcl2 : m2.calls.length ≤ 65536 := by omega
          clear hG HL2 HL1
          go_wp2_with fail
          go_loopw [13, 14, 15] (fun vo vi i wr => ∃ k : Nat, k ≤ m2.calls.length ∧ i = .int .i64 k ∧ OnceI w G m2.calls l k vi vo wr) (fun _ _ i _ => m2.calls.length - (intOf i).toNat)
          case atStart => exact ⟨0, Nat.zero_le _, rfl, HI0.out⟩
          case round =>
            obtain ⟨k, hk, rfl, hI⟩ := hrel
            clear HI0
            have hI0 := hI
            obtain ⟨Si, So2, ri, ro, hh⟩ := hI
            obtain ⟨ia, ic, rfl⟩ := ri.form
            obtain ⟨oa2, oc2, rfl⟩ := ro.form
            have hg := hh.of_eq (show _ = pt w4.heap.size (.cells #[.slice ca m2.calls.length cc, .slice ta m2.trace.length tc, .slice none 0 0, .slice wa m2.words.length wc] 33 (0, 0)) + (Sc + (dbox w n room + (Si + So2))) from by rw [← HG.out]; unfold rbox; ac_rfl)
            have b0 : wr.cell? ⟨w4.heap.size, 0, none⟩ = some (.slice ca m2.calls.length cc) := by rw [hg.cell]; rfl
            by_cases hlt : k < m2.calls.length
            · have hx := List.getElem?_eq_getElem hlt
              generalize m2.calls[k] = c at hx
              obtain ⟨gc, rfl, hgc, hce⟩ := call_cells HC.out hg.right hx
              have e0 := hce 0 (by decide)
              have e1 := hce 1 (by decide)
              have e2 := hce 2 (by decide)
              have e3 := hce 3 (by decide)
              have e4 := hce 4 (by decide)
              have e5 := hce 5 (by decide)
              have e6 := hce 6 (by decide)
              have e7 := hce 7 (by decide)
              have e8 := hce 8 (by decide)
              simp only [encCall, List.getElem?_cons_zero, List.getElem?_cons_succ, Nat.add_zero] at e0 e1 e2 e3 e4 e5 e6 e7 e8
              have hkl1 : (insOf (m2.calls.take k)).length ≤ 65536 := by have := insOf_le (m2.calls.take k); rw [List.length_take] at this; omega
              have hkl2 : (l ++ outsOf (m2.calls.take k)).length ≤ 70000 := by have := outsOf_le (m2.calls.take k); rw [List.length_take] at this; rw [List.length_append]; omega
              have HX := Lib.hid hx
              generalize hil : insOf (m2.calls.take k) = il at *
              generalize hol : l ++ outsOf (m2.calls.take k) = ol at *
              have HIL := Lib.hid hil
              have HOL := Lib.hid hol
              have HII := Lib.hid hI0
              have RI := Lib.hid ri
              have RO := Lib.hid ro
              have HH := Lib.hid hh
              clear hx hI0 ri ro hh hg hce hil hol
              by_cases o90 : c.op = 90
              · have t1 : (c.op == 90) = true := by rw [beq_iff_eq]; exact o90
                have t2 : (c.op != 90) = false := by simp [o90]
                have O := Lib.hid o90
                clear o90
                by_cases a1 : c.ak = 1
                · have t3 : (c.ak == 1) = true := by rw [beq_iff_eq]; exact a1
                  have A := Lib.hid a1
                  clear a1
                  go_wp2_with (at_builtin; go_must (refine wpList_append_one (W := w) (F := So2 + (pt wr.heap.size (.cells (encCall c).toArray 66 (0, 0)) + G)) rfl (.tmp 110) (.tmp 113) 51 rfl 3 i0 _ 1 8 Try.underlying51 hi hz0 hz1 hz2 rfl (by decide) _ _ _ _ rfl RI.out (wr.heap.size + 1) 1 3 [.int .i64 c.arg] rfl rfl (by simp [Value.oneCell']) ?i1 ?i2 (((HH.out.new wr.heap.size rfl (.cells (encCall c).toArray 66 (0, 0))).new (wr.heap.size + 1) (by simp) (.cells #[.int .i64 c.arg] 3 (0, 0))).of_eq (by ac_rfl)) ?i3))
                  case i1 => unfold maxLen; omega
                  case i2 => omega
                  case i3 =>
                    intro gi ci w8 S8 s1 s2
                    have R := Lib.hid (OnceI.put HX.out (by unfold DM.insF; rw [if_pos ⟨O.out, A.out⟩]) (by unfold DM.outF; rw [if_neg (by have := O.out; omega)]) HIL.out HOL.out s1 RO.out s2)
                    have g8 := s2.of_eq (show _ = pt wr.heap.size (.cells (encCall c).toArray 66 (0, 0)) + (S8 + (So2 + G)) from by ac_rfl)
                    have f1 : w8.cell? ⟨wr.heap.size, 1, none⟩ = some (.int .i64 c.op) := by rw [g8.cell]; rfl
                    have f7 : w8.cell? ⟨wr.heap.size, 7, none⟩ = some (.int .i64 c.ak) := by rw [g8.cell]; rfl
                    clear s1 s2 g8
                    go_wp2_with fail
                    go_roundw
                    case rel => exact ⟨k + 1, by omega, by go_num, R.out⟩
                    case measure => simp [intOf]; omega
                · have t3 : (c.ak == 1) = false := by rw [beq_eq_false_iff_ne]; exact a1
                  have R : Hid (OnceI w G m2.calls l (k + 1) (.slice ia il.length ic) (.slice oa2 ol.length oc2) _) := Lib.hid (HII.out.same HX.out (DM.insF_no a1) (by unfold DM.outF; rw [if_neg (by have := O.out; omega)]) (.cells (encCall c).toArray 66 (0, 0)))
                  clear a1
                  go_wp2_with fail
                  go_roundw
                  case rel => exact ⟨k + 1, by omega, by go_num, R.out⟩
                  case measure => simp [intOf]; omega
              · have t1 : (c.op == 90) = false := by rw [beq_eq_false_iff_ne]; exact o90
                have t2 : (c.op != 90) = true := by rw [bne_iff_ne]; exact o90
                have O := Lib.hid o90
                clear o90
                by_cases a1 : c.ak = 2
                · have t3 : (c.ak == 2) = true := by rw [beq_iff_eq]; exact a1
                  have A := Lib.hid a1
                  clear a1
                  go_wp2_with (at_builtin; go_must (refine wpList_append_one (W := w) (F := Si + (pt wr.heap.size (.cells (encCall c).toArray 66 (0, 0)) + G)) rfl (.tmp 124) (.tmp 128) 51 rfl 3 i0 _ 1 8 Try.underlying51 hi hz0 hz1 hz2 rfl (by decide) _ _ _ _ rfl RO.out (wr.heap.size + 1) 1 3 [.int .i64 c.av] rfl rfl (by simp [Value.oneCell']) ?o1 ?o2 (((HH.out.new wr.heap.size rfl (.cells (encCall c).toArray 66 (0, 0))).new (wr.heap.size + 1) (by simp) (.cells #[.int .i64 c.av] 3 (0, 0))).of_eq (by ac_rfl)) ?o3))
                  case o1 => unfold maxLen; omega
                  case o2 => omega
                  case o3 =>
                    intro gi ci w8 S8 s1 s2
                    have R := Lib.hid (OnceI.got HX.out (by unfold DM.insF; rw [if_neg (by have := O.out; omega)]) (by unfold DM.outF; rw [if_pos ⟨O.out, A.out⟩]) HIL.out HOL.out RI.out s1 s2)
                    clear s1 s2
                    go_wp2_with fail
                    go_roundw
                    case rel => exact ⟨k + 1, by omega, by go_num, R.out⟩
                    case measure => simp [intOf]; omega
                · have t3 : (c.ak == 2) = false := by rw [beq_eq_false_iff_ne]; exact a1
                  have R : Hid (OnceI w G m2.calls l (k + 1) (.slice ia il.length ic) (.slice oa2 ol.length oc2) _) := Lib.hid (HII.out.same HX.out (by unfold DM.insF; rw [if_neg (by have := O.out; omega)]) (DM.outF_no a1) (.cells (encCall c).toArray 66 (0, 0)))
                  clear a1
                  go_wp2_with fail
                  go_roundw
                  case rel => exact ⟨k + 1, by omega, by go_num, R.out⟩
                  case measure => simp [intOf]; omega
            · have hke : k = m2.calls.length := by omega
              have hins : insOf (m2.calls.take k) = insOf m2.calls := by rw [hke, List.take_length]
              have houts : l ++ outsOf (m2.calls.take k) = l ++ outsOf m2.calls := by rw [hke, List.take_length]
              have hp : (insOf m2.calls).Perm (l ++ outsOf m2.calls) := HPM.out.trans List.perm_append_comm
              rw [hins] at ri
              rw [houts] at ro
              have hil1 : (insOf m2.calls).length ≤ 65536 := by have := insOf_le m2.calls; omega
              rw [hins, houts]
              generalize insOf m2.calls = il at *
              generalize l ++ outsOf m2.calls = ol at *
              have hlen : ol.length = il.length := hp.length_eq.symm
              rw [hlen] at ro
              rw [hlen]
              have HPP := Lib.hid hp
              have HLL := Lib.hid hlen
              have RI := Lib.hid ri
              have RO := Lib.hid ro
              have HH := Lib.hid hh
              clear hins houts hp hlen ri ro hh hg hI0 hke
              have HM0 : Hid (MatI w G il oa2 oc2 Si 0 wr) := ⟨ol, So2, HPP.out, fun j hj => absurd hj (Nat.not_lt_zero _), RO.out, HH.out⟩
              clear RO HH
              go_wp2_with fail
              clear b0
              go_loopw [17] (fun i wr => ∃ k : Nat, k ≤ il.length ∧ i = .int .i64 k ∧ MatI w G il oa2 oc2 Si k wr) (fun i _ => il.length - (intOf i).toNat)
              case atStart => exact ⟨0, Nat.zero_le _, rfl, HM0.out⟩
              case round =>
                obtain ⟨k2, hk2, rfl, o, So3, hp, hpre, ro, hh⟩ := hrel
                clear HM0
                by_cases hlt : k2 < il.length
                · have hx := List.getElem?_eq_getElem hlt
                  generalize il[k2] = x at hx
                  obtain ⟨gi, resti, rfl, _, rfl, _⟩ := int_row RI.out (by omega)
                  obtain ⟨go, resto, rfl, hol, rfl, hset⟩ := int_row ro (by omega)
                  have HX := Lib.hid hx
                  have HP := Lib.hid hp
                  have HPRE := Lib.hid hpre
                  have HS := Lib.hid hset
                  have HOL := Lib.hid hol
                  have HH := Lib.hid hh
                  clear hx hp hpre ro hh hol hset
                  go_wp2_with fail
                  obtain ⟨wo, rfl⟩ : ∃ wo : World, wo = wr := ⟨_, rfl⟩
                  go_loopw [18, 19] (fun v kk wy => ∃ j : Nat, k2 ≤ j ∧ j ≤ il.length ∧ kk = .int .i64 j ∧ AtOK o x k2 j v ∧ Holds w wy (pt gi (.cells (ints il ++ resti).toArray 3 (0, 0)) + (pt go (.cells (ints o ++ resto).toArray 3 (0, 0)) + G))) (fun _ kk _ => il.length - (intOf kk).toNat)
                  case atStart => exact ⟨k2, Nat.le_refl _, by omega, rfl, .inl ⟨rfl, fun i h1 h2 => by omega⟩, HH.out⟩
                  case round =>
                    obtain ⟨j, hj0, hj, rfl, hat, hh⟩ := hrel
                    clear HH
                    have hh2 := hh.of_eq (show _ = pt go (.cells (ints o ++ resto).toArray 3 (0, 0)) + (pt gi (.cells (ints il ++ resti).toArray 3 (0, 0)) + G) from by ac_rfl)
                    have ci : wr.cell? ⟨gi, k2, none⟩ = some (.int .i64 x) := int_cell hh HX.out
                    by_cases hjl : j < il.length
                    · have hjo : j < o.length := by rw [HOL.out]; exact hjl
                      have hy := List.getElem?_eq_getElem hjo
                      generalize o[j] = y at hy
                      have co : wr.cell? ⟨go, j, none⟩ = some (.int .i64 y) := int_cell hh2 hy
                      have HY := Lib.hid hy
                      have HAT := Lib.hid hat
                      have HH2 := Lib.hid hh
                      have z0 : (0 : Int) ≤ (j : Int) := by omega
                      have z1 : (j : Int) < (il.length : Int) := by omega
                      have z2 : (0 : Int) ≤ (k2 : Int) := by omega
                      have z3 : (k2 : Int) < (il.length : Int) := by omega
                      clear hy hat hh hh2 hjo
                      by_cases e : y = x
                      · have te : (y == x) = true := by rw [beq_iff_eq]; exact e
                        have HE := Lib.hid e
                        clear e
                        go_wp2_with fail
                        go_quiet (fail)
                        have HH3 := Lib.hid (HH2.out.drewN nq)
                        go_wp2_with fail
                        go_roundw
                        case rel => exact ⟨j + 1, by omega, by omega, by go_num, .inr ⟨j, hj0, rfl, by rw [HY.out, HE.out]⟩, HH3.out⟩
                        case measure => simp [intOf]; omega
                      · have te : (y == x) = false := by rw [beq_eq_false_iff_ne]; exact e
                        have HE := Lib.hid e
                        clear e
                        go_wp2_with fail
                        go_quiet (fail)
                        have HH3 := Lib.hid (HH2.out.drewN nq)
                        go_wp2_with fail
                        go_roundw
                        case rel =>
                          refine ⟨j + 1, by omega, by omega, by go_num, ?_, HH3.out⟩
                          rcases HAT.out with ⟨h1, h2⟩ | h1
                          · refine .inl ⟨h1, fun i h3 h4 => ?_⟩
                            by_cases e : i = j
                            · subst e; rw [HY.out]; intro h; injection h with h; exact HE.out h
                            · exact h2 i h3 (by omega)
                          · exact .inr h1
                        case measure => simp [intOf]; omega
                    · rcases hat with ⟨_, hno⟩ | ⟨a1, ha1, rfl, ha2⟩
                      · exfalso
                        obtain ⟨a1, q1, q2, q3⟩ := match_found HP.out HPRE.out HX.out
                        exact hno a1 q1 (by have := HOL.out; omega) q3
                      · have hal : a1 < il.length := by rw [← HOL.out]; exact (List.getElem?_eq_some_iff.1 ha2).1
                        have hko : k2 < o.length := by rw [HOL.out]; exact hlt
                        have hy := List.getElem?_eq_getElem hko
                        generalize o[k2] = y at hy
                        have ca2 : wr.cell? ⟨go, a1, none⟩ = some (.int .i64 x) := int_cell hh2 ha2
                        have ck2 : wr.cell? ⟨go, k2, none⟩ = some (.int .i64 y) := int_cell hh2 hy
                        have fa := hh2.free a1
                        have fk := hh2.free k2
                        have z0 : (0 : Int) ≤ (a1 : Int) := by omega
                        have z1 : (a1 : Int) < (il.length : Int) := by omega
                        have z2 : (0 : Int) ≤ (k2 : Int) := by omega
                        have z3 : (k2 : Int) < (il.length : Int) := by omega
                        have HY := Lib.hid hy
                        have HA := Lib.hid ha2
                        have HH2 := Lib.hid hh2
                        have HJ := Lib.hid hjl
                        have hjb : (il.length : Int) ≤ j := by omega
                        have hm := match_swap HP.out HPRE.out HX.out ha1 ha2 hy
                        have HMW : Hid (MatI w G il (some ⟨go, 0, none⟩) oc2 (pt gi (.cells (ints il ++ resti).toArray 3 (0, 0))) (k2 + 1) ((wr.setCell ⟨go, k2, none⟩ (.int .i64 x)).setCell ⟨go, a1, none⟩ (.int .i64 y)).drew) := by
                          have g1 := HH2.out.set k2 (.int .i64 x)
                          rw [int_set hko] at g1
                          have g2 := g1.set a1 (.int .i64 y)
                          rw [int_set (by rw [List.length_set, HOL.out]; exact hal)] at g2
                          exact ⟨_, _, hm.1, hm.2, HS.out _ (by rw [List.length_set, List.length_set, HOL.out]), g2.drew.of_eq (by ac_rfl)⟩
                        clear hy ha2 hh hh2 hjl hm hko
                        by_cases e : a1 = k2
                        · have hxy : y = x := by have h1 := HY.out; have h2 := HA.out; rw [e] at h2; rw [h1] at h2; injection h2
                          subst hxy
                          subst e
                          clear ck2 fk
                          go_wp2_with fail
                          go_region
                          all_goals
                            go_wp2_with fail
                            go_roundw
                            case rel => exact ⟨_, by omega, by go_num, HMW.out⟩
                            case measure => simp [intOf]; omega
                        · go_wp2_with fail
                          go_region
                          all_goals
                            go_wp2_with fail
                            go_roundw
                            case rel => exact ⟨_, by omega, by go_num, HMW.out⟩
                            case measure => simp [intOf]; omega
                · go_wp2_with fail
                  go_ret
                  exact ⟨rfl, hh.below⟩

/-- The walk. -/
theorem once_walk (w : World) (th room : Int) (a : Option Addr) (len cap : Nat) (mvs : List DM.Mv) (hm : MovesIn w a len mvs) : Calls Try.prog 5 (onceArgs th room a len cap) w (OncePost w) := by
  by_cases h1 : okD th room ∧ len ≤ 65536
  · obtain ⟨n, rfl⟩ := Int.eq_ofNat_of_zero_le (show 0 ≤ th by have := h1.1; unfold okD at this; omega)
    obtain ⟨r, rfl⟩ := Int.eq_ofNat_of_zero_le (show 0 ≤ room by have := h1.1; unfold okD at this; omega)
    exact once_in w n r a len cap mvs hm h1.2 h1.1
  · exact once_unfit w th room a len cap hm.2.1 h1

end Go.Proofs.Ythifeaigdobonaa
