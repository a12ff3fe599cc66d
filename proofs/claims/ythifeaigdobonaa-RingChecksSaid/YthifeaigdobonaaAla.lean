/- DequeAlone: the walk: whoever is alone ends within seven steps. -/
import Derived.Test.YthifeaigdobonaaAwk
namespace Go.Proofs.Ythifeaigdobonaa
open Go.RowKit

theorem Holds.of_below {W w w' : World} {S : Hp} (h : Holds W w S) (hb : Below w.heap.size w w') : Holds W w' S :=
  ⟨hb.os.trans h.os, hb.tape.trans h.tape, hb.output.trans h.output, Nat.le_trans h.size hb.size, h.once, fun b hd => Nat.lt_of_lt_of_le (h.low b hd) hb.size,
    fun b o hv => (hb.block b (h.low b (S.ok b o hv))).trans (h.get b o hv), h.up, fun k hk => (hb.block k (Nat.lt_of_lt_of_le hk h.size)).trans (h.old k hk)⟩

theorem Plays.of_below {W : World} {p : Spot} {m : DM} {F : Hp} {w w' : World} (h : Plays W p m F w) (hb : Below w.heap.size w w') : Plays W p m F w' := by
  obtain ⟨S, h1, h2⟩ := h
  exact ⟨S, h1, h2.of_below hb⟩

theorem deque_bz (W w : World) (p : Spot) {m : DM} {F : Hp} (th : Int) (h : Plays W p m F w) :
    Calls Try.prog 21 #[.pointer (some ⟨p.bM, 0, none⟩), .int .i64 th] w fun e w' => w = w' ∧ e = .returned (.bool (m.busy th)) := by
  obtain ⟨S, h1, h2⟩ := h
  exact deque_busy W w p.bM p.bm p.kb p.bv p.bh F th h1 h2

theorem check_at (w : World) (th room : Int) : Calls Try.prog 17 #[dqV th room] w fun e w' => e = .returned (.bool (decide (okD th room))) ∧ Below w.heap.size w w' := by
  unfold dqV
  by_cases h1 : 1 ≤ th
  · by_cases h2 : th ≤ 16
    · by_cases h3 : 1 ≤ room
      · by_cases h4 : room ≤ 256
        · go_enter Try.func17, Try.ntmps17
          go_wp2_with fail
          go_ret
          exact ⟨by simp [okD, h1, h2, h3, h4], (Below.refl _ _).alloc (Nat.le_refl _) _⟩
        · go_enter Try.func17, Try.ntmps17
          go_wp2_with fail
          go_ret
          exact ⟨by rw [decide_eq_false (by unfold okD; omega)]; simp, (Below.refl _ _).alloc (Nat.le_refl _) _⟩
      · go_enter Try.func17, Try.ntmps17
        go_wp2_with fail
        go_ret
        exact ⟨by rw [decide_eq_false (by unfold okD; omega)]; simp, (Below.refl _ _).alloc (Nat.le_refl _) _⟩
    · go_enter Try.func17, Try.ntmps17
      go_wp2_with fail
      go_ret
      exact ⟨by rw [decide_eq_false (by unfold okD; omega)]; simp, (Below.refl _ _).alloc (Nat.le_refl _) _⟩
  · go_enter Try.func17, Try.ntmps17
    go_wp2_with fail
    go_ret
    exact ⟨by rw [decide_eq_false (by unfold okD; omega)]; simp, (Below.refl _ _).alloc (Nat.le_refl _) _⟩

theorem fits_at (w : World) (th room : Int) (a : Option Addr) (len cap : Nat) (hl : len ≤ maxLen) :
    Calls Try.prog 24 #[dqV th room, .slice a len cap] w fun e w' => e = .returned (.bool (decide (okD th room ∧ len ≤ 65536))) ∧ Below w.heap.size w w' := by
  unfold maxLen at hl
  unfold dqV
  by_cases h1 : okD th room
  · have HO := Lib.hid h1
    clear h1
    go_enter Try.func24, Try.ntmps24
    go_wp2_with fail
    refine (check_at _ th room).mono ?_
    rintro e w1 ⟨rfl, hb⟩
    rw [decide_eq_true HO.out]
    by_cases h2 : len ≤ 65536
    all_goals
      go_wp2_with fail
      go_ret
      exact ⟨by simp [HO.out, h2]; try omega, ((Below.refl _ _).alloc (Nat.le_refl _) _).trans (hb.mono (by simp))⟩
  · have HO := Lib.hid h1
    clear h1
    go_enter Try.func24, Try.ntmps24
    go_wp2_with fail
    refine (check_at _ th room).mono ?_
    rintro e w1 ⟨rfl, hb⟩
    rw [decide_eq_false HO.out]
    go_wp2_with fail
    go_ret
    exact ⟨by simp [HO.out], ((Below.refl _ _).alloc (Nat.le_refl _) _).trans (hb.mono (by simp))⟩

theorem Plays.moved {W : World} {p : Spot} {m : DM} {F : Hp} {w : World} {v : DM.Mv} {l : List DM.Mv} (h : Plays W p ((m.runs l).move v).1 F w) : Plays W p (m.runs (l ++ [v])) F w := by rw [DM.runs_snoc]; exact h

def aloneF (w : World) (th room : Int) (v : DM.Mv) : Hp := pt (w.heap.size + 1) (.cells (encMv v).toArray 27 (0, 0)) + (pt w.heap.size (.cells #[.int .i64 th, .int .i64 room] 23 (0, 0)) + emp)
def stepMv (t : Int) : DM.Mv := ⟨t, 0, 0, 0⟩
theorem step_ok {t : Int} : I64 (stepMv t).arg := I64.small (by show (-1000000000 : Int) ≤ 0; omega) (by show (0 : Int) ≤ 1000000000; omega)
def AlonePost (w : World) (e : Ending) (w' : World) : Prop := e = .returned (.bool true) ∧ Below w.heap.size w w'

section
variable (w : World) (th room : Int) (a : Option Addr) (len cap : Nat) (mvs : List DM.Mv) (t : Int) (v : DM.Mv)
def aloneArgs (th room : Int) (a : Option Addr) (len cap : Nat) (t : Int) (v : DM.Mv) : Array Value := #[dqV th room, .slice a len cap, .int .i64 t, .agg #[.int .i64 v.thread, .int .i64 v.op, .int .i64 v.arg, .int .i64 v.data]]

/-- What does not fit. -/
theorem alone_unfit (hl : len ≤ maxLen) (hno : ¬ (okD th room ∧ len ≤ 65536)) : Calls Try.prog 4 (aloneArgs th room a len cap t v) w (AlonePost w) := by
  have HN := Lib.hid hno
  have HL := Lib.hid hl
  clear hno hl
  unfold aloneArgs dqV
  go_enter Try.func4, Try.ntmps4
  go_wp2_with fail
  refine (fits_at _ th room a len cap HL.out).mono ?_
  rintro e w1 ⟨rfl, hb⟩
  rw [decide_eq_false HN.out]
  have HB := Lib.hid hb
  clear hb
  go_wp2_with fail
  refine (awake_yes _).mono ?_
  rintro e w2 ⟨rfl, hb2⟩
  go_wp2_with fail
  go_ret
  exact ⟨rfl, ((((Below.refl _ _).alloc (Nat.le_refl _) _).alloc (by simp) _).trans (HB.out.mono (by simp; omega))).trans (hb2.mono (by have := HB.out.size; simp at this; omega))⟩

/-- A script that is too long for the law. -/
theorem alone_long (hl : len ≤ 65536) (hok : okD th room) (hlong : 65516 < len) : Calls Try.prog 4 (aloneArgs th room a len cap t v) w (AlonePost w) := by
  have HN := Lib.hid hok
  clear hok
  unfold aloneArgs dqV
  go_enter Try.func4, Try.ntmps4
  go_wp2_with fail
  refine (fits_at _ th room a len cap (by unfold maxLen; omega)).mono ?_
  rintro e w1 ⟨rfl, hb⟩
  rw [decide_eq_true (p := okD th room ∧ len ≤ 65536) ⟨HN.out, hl⟩]
  have HB := Lib.hid hb
  clear hb
  go_wp2_with fail
  refine (awake_yes _).mono ?_
  rintro e w2 ⟨rfl, hb2⟩
  go_wp2_with fail
  go_ret
  exact ⟨rfl, ((((Below.refl _ _).alloc (Nat.le_refl _) _).alloc (by simp) _).trans (HB.out.mono (by simp; omega))).trans (hb2.mono (by have := HB.out.size; simp at this; omega))⟩
end

set_option maxHeartbeats 1000000 in
set_option maxRecDepth 100000 in
/-- The law's own case, the thread within. -/
theorem alone_in (w : World) (n room : Nat) (a : Option Addr) (len cap : Nat) (mvs : List DM.Mv) (t : Nat) (v : DM.Mv) (hm : MovesIn w a len mvs) (hl : len ≤ 65516) (hok : okD n room) (hv : MvOK v) (ht : t < n) :
    Calls Try.prog 4 (aloneArgs n room a len cap t v) w (AlonePost w) := by
  have hlen : len = mvs.length := hm.1
  have h1 := ((Holds.self w).new w.heap.size rfl (.cells #[.int .i64 (n : Int), .int .i64 (room : Int)] 23 (0, 0))).new (w.heap.size + 1) (by simp) (.cells (encMv v).toArray 27 (0, 0))
  have d0 : decide ((t : Int) < 0) = false := by simp
  have d1 : decide ((n : Int) ≤ (t : Int)) = false := by simp; omega
  have d2 : decide (n ≤ t) = false := by simp; omega
  have hinit : (DM.init n room).Inv := DM.Inv.start n room (by unfold okD at hok; omega) (by unfold okD at hok; omega) (by unfold okD at hok; omega) (by unfold okD at hok; omega)
  have hargs : ∀ u ∈ mvs, I64 u.arg := fun u hu => (hm.2.2.1 u hu).2.2.1
  have HA := Lib.hid hargs
  have HI := Lib.hid hinit
  have HM := Lib.hid hm
  have HL := Lib.hid hlen
  have HO := Lib.hid hok
  have H1 : Hid (Holds w _ (aloneF w n room v)) := Lib.hid h1
  have HV := Lib.hid hv
  clear hm hlen hok h1 hv hinit hargs
  unfold aloneArgs dqV
  go_enter Try.func4, Try.ntmps4
  go_wp2_with fail
  refine (fits_at _ n room a len cap (by unfold maxLen; omega)).mono ?_
  rintro e w1 ⟨rfl, hb⟩
  rw [decide_eq_true (p := okD n room ∧ len ≤ 65536) ⟨HO.out, by omega⟩]
  have h2 := H1.out.of_below hb
  have c0 : w1.cell? ⟨w.heap.size, 0, none⟩ = some (.int .i64 n) := by unfold aloneF at h2; rw [h2.right.cell]; rfl
  have c1 : w1.cell? ⟨w.heap.size, 1, none⟩ = some (.int .i64 room) := by unfold aloneF at h2; rw [h2.right.cell]; rfl
  have H2 := Lib.hid h2
  clear hb h2 H1
  go_wp2_with fail
  refine (deque_made w _ n room _ HO.out H2.out).mono ?_
  rintro e w2 ⟨p, rfl, hp⟩
  have HP := Lib.hid hp
  clear hp c0 c1
  go_wp2_with fail
  refine (num_at _ _).mono ?_
  rintro e w' ⟨rfl, rfl⟩
  go_wp2_with fail
  refine (awake_yes _).mono ?_
  rintro e w3 ⟨rfl, hb3⟩
  have HP3 : Hid (Plays w p ((DM.init n room).runs (mvs.take 0)) (aloneF w n room v) w3) := HP.out.of_below hb3
  clear hb3 HP H2
  go_wp2_with fail
  go_loopw [11] (fun i wr => ∃ k : Nat, k ≤ len ∧ i = .int .i64 k ∧ Plays w p ((DM.init n room).runs (mvs.take k)) (aloneF w n room v) wr) (fun i _ => len - (intOf i).toNat)
  case atStart => exact ⟨0, Nat.zero_le _, rfl, HP3.out⟩
  case round =>
    obtain ⟨k, hk, rfl, hp⟩ := hrel
    clear HP3
    by_cases hlt : k < len
    · have hx := List.getElem?_eq_getElem (show k < mvs.length by rw [← HL.out]; exact hlt)
      generalize mvs[k] = u at hx
      obtain ⟨b, off, rfl, hok, e0, e1, e2, e3⟩ := HM.out.at hp.holds hx
      have HX := Lib.hid hx
      have HP := Lib.hid hp
      have HU := Lib.hid hok.2.2.1
      clear hx hp hok
      go_wp2_with fail
      refine (deque_mv w _ p u HU.out HP.out).mono ?_
      rintro e w' ⟨rfl, hp'⟩
      have HP' : Hid (Plays w p ((DM.init n room).runs (mvs.take (k + 1))) (aloneF w n room v) w') := by rw [DM.runs_take _ _ HX.out]; exact hp'
      clear hp'
      go_wp2_with fail
      go_roundw
      case rel => exact ⟨k + 1, by omega, by go_num, HP'.out⟩
      case measure => simp [intOf]; omega
    · have hke : k = len := by omega
      have hp2 : Plays w p ((DM.init n room).runs (mvs ++ List.replicate 0 (stepMv t))) (aloneF w n room v) wr := by
        rw [List.take_of_length_le (by have := HL.out; omega)] at hp
        simpa using hp
      have c0 : wr.cell? ⟨w.heap.size, 0, none⟩ = some (.int .i64 n) := by have := hp.holds; unfold aloneF at this; rw [this.right.cell]; rfl
      have HP := Lib.hid hp2
      have HK := Lib.hid hke
      clear hp hp2 hke
      go_wp2_with fail
      go_loopw [12] (fun i wr => ∃ k : Nat, k ≤ 7 ∧ i = .int .i64 k ∧ Plays w p ((DM.init n room).runs (mvs ++ List.replicate k (stepMv t))) (aloneF w n room v) wr) (fun i _ => 7 - (intOf i).toNat)
      case atStart => exact ⟨0, Nat.zero_le _, rfl, HP.out⟩
      case round =>
        obtain ⟨j, hj, rfl, hp⟩ := hrel
        clear HP
        have HP := Lib.hid hp
        clear hp
        by_cases hlt7 : j < 7
        · go_wp2_with fail
          refine (deque_mv w _ p (stepMv t) step_ok HP.out).mono ?_
          rintro e w' ⟨rfl, hp'⟩
          have HP' : Hid (Plays w p ((DM.init n room).runs (mvs ++ List.replicate (j + 1) (stepMv t))) (aloneF w n room v) w') := by rw [List.replicate_succ', ← List.append_assoc]; exact hp'.moved
          clear hp'
          go_wp2_with fail
          go_roundw
          case rel => exact ⟨j + 1, by omega, by go_num, HP'.out⟩
          case measure => simp [intOf]; omega
        · have hje : j = 7 := by omega
          subst hje
          go_wp2_with fail
          have hrn : (DM.init n room).runs (mvs ++ List.replicate 7 (stepMv t)) = ((DM.init n room).runs mvs).runs (List.replicate 7 (stepMv t)) := DM.runs_append _ _ _
          have hmv := DM.runs_moves (m := DM.init n room) mvs (by show (0 : Int) + _ ≤ _; have := HL.out; omega)
          have hmv : ((DM.init n room).runs mvs).moves = len := by rw [hmv]; show (0 : Int) + _ = _; rw [HL.out]; omega
          have hal : ((DM.init n room).runs mvs).all.length = n := by rw [DM.runs_len]; simp [DM.init]
          have hin := HI.out.runs mvs HA.out
          have hbz : ((DM.init n room).runs (mvs ++ List.replicate 7 (stepMv t))).busy t = false := by
            rw [hrn]
            have := DM.alone hin (t := t) (a := 0) (d := 0) (I64.small (by decide) (by decide)) (by omega) (by omega)
            exact decide_eq_false (fun h => by rw [Int.toNat_natCast] at h; exact absurd h.2.2 (by unfold stepMv; omega))
          have HBZ := Lib.hid hbz
          have HMV := Lib.hid hmv
          have HAL := Lib.hid hal
          have HIN := Lib.hid hin
          clear hrn hmv hal hin hbz
          refine (deque_bz w _ p t HP.out).mono ?_
          rintro e w' ⟨rfl, rfl⟩
          rw [HBZ.out]
          have hh := HP.out
          obtain ⟨S, q1, q2⟩ := hh
          have q3 := q2.of_eq (show _ = pt (w.heap.size + 1) (.cells (encMv v).toArray 27 (0, 0)) + (S + (pt w.heap.size (.cells #[.int .i64 n, .int .i64 room] 23 (0, 0)) + emp)) from by unfold aloneF; ac_rfl)
          have b0 : wr.cell? ⟨w.heap.size + 1, 0, none⟩ = some (.int .i64 v.thread) := by rw [q3.cell]; rfl
          have b1 : wr.cell? ⟨w.heap.size + 1, 1, none⟩ = some (.int .i64 v.op) := by rw [q3.cell]; rfl
          have b2 : wr.cell? ⟨w.heap.size + 1, 2, none⟩ = some (.int .i64 v.arg) := by rw [q3.cell]; rfl
          have b3 : wr.cell? ⟨w.heap.size + 1, 3, none⟩ = some (.int .i64 v.data) := by rw [q3.cell]; rfl
          have f0 := q3.free 0
          have HP2 : Hid (Plays w p ((DM.init n room).runs (mvs ++ List.replicate 7 (stepMv t))) (aloneF w n room { v with thread := t }) (wr.setCell ⟨w.heap.size + 1, 0, none⟩ (.int .i64 t))) :=
            ⟨S, q1, (q3.set 0 (.int .i64 t)).of_eq (by unfold aloneF; simp only [encMv, List.setIfInBounds_toArray, List.set_cons_zero]; ac_rfl)⟩
          clear q1 q2 q3 HP
          go_wp2_with fail
          refine (deque_mv w _ p { v with thread := t } HV.out.2.2.1 HP2.out).mono ?_
          rintro e w' ⟨rfl, hp'⟩
          have HP3 : Hid (Plays w p ((DM.init n room).runs (mvs ++ List.replicate 7 (stepMv t) ++ [{ v with thread := t }] ++ List.replicate 0 (stepMv t))) (aloneF w n room { v with thread := t }) w') := by
            rw [show (mvs ++ List.replicate 7 (stepMv t) ++ [{ v with thread := (t : Int) }] ++ List.replicate 0 (stepMv t)) = mvs ++ List.replicate 7 (stepMv t) ++ [{ v with thread := (t : Int) }] from by simp]; exact hp'.moved
          clear hp' HP2 b0 b1 b2 b3 f0
          go_wp2_with fail
          go_loopw [13] (fun i wr => ∃ k : Nat, k ≤ 7 ∧ i = .int .i64 k ∧ Plays w p ((DM.init n room).runs (mvs ++ List.replicate 7 (stepMv t) ++ [{ v with thread := t }] ++ List.replicate k (stepMv t))) (aloneF w n room { v with thread := t }) wr) (fun i _ => 7 - (intOf i).toNat)
          case atStart => exact ⟨0, Nat.zero_le _, rfl, HP3.out⟩
          case round =>
            obtain ⟨j, hj, rfl, hp⟩ := hrel
            have HP := Lib.hid hp
            clear hp HP3
            by_cases hlt8 : j < 7
            · go_wp2_with fail
              refine (deque_mv w _ p (stepMv t) step_ok HP.out).mono ?_
              rintro e w' ⟨rfl, hp'⟩
              have HP' : Hid (Plays w p ((DM.init n room).runs (mvs ++ List.replicate 7 (stepMv t) ++ [{ v with thread := t }] ++ List.replicate (j + 1) (stepMv t))) (aloneF w n room { v with thread := t }) w') := by rw [List.replicate_succ' (n := j), ← List.append_assoc (mvs ++ List.replicate 7 (stepMv t) ++ _)]; exact hp'.moved
              clear hp'
              go_wp2_with fail
              go_roundw
              case rel => exact ⟨j + 1, by omega, by go_num, HP'.out⟩
              case measure => simp [intOf]; omega
            · have hje : j = 7 := by omega
              subst hje
              go_wp2_with fail
              have hbz : ((DM.init n room).runs (mvs ++ List.replicate 7 (stepMv t) ++ [{ v with thread := (t : Int) }] ++ List.replicate 7 (stepMv t))).busy t = false := by
                rw [DM.runs_append, List.append_assoc, DM.runs_append _ mvs]
                have hm1 := DM.runs_moves (m := (DM.init n room).runs mvs) (List.replicate 7 (stepMv t) ++ [{ v with thread := (t : Int) }]) (by rw [HMV.out]; simp; omega)
                have hi1 := HIN.out.runs (List.replicate 7 (stepMv t) ++ [{ v with thread := (t : Int) }]) (fun u hu => by
                  rcases List.mem_append.1 hu with hu | hu
                  · rw [List.eq_of_mem_replicate hu]; exact step_ok
                  · simp at hu; subst hu; exact HV.out.2.2.1)
                rw [HMV.out] at hm1
                have := DM.alone hi1 (t := t) (a := 0) (d := 0) (I64.small (by decide) (by decide)) (by rw [DM.runs_len, HAL.out]; exact ht) (by rw [hm1]; simp; omega)
                exact decide_eq_false (fun h => by rw [Int.toNat_natCast] at h; exact absurd h.2.2 (by unfold stepMv at *; omega))
              have HB2 := Lib.hid hbz
              clear hbz
              refine (deque_bz w _ p t HP.out).mono ?_
              rintro e w' ⟨rfl, rfl⟩
              rw [HB2.out]
              go_wp2_with fail
              go_ret
              exact ⟨rfl, HP.out.holds.below⟩

set_option maxHeartbeats 1000000 in
set_option maxRecDepth 100000 in
/-- The law's own case, no such thread. -/
theorem alone_out (w : World) (n room : Nat) (a : Option Addr) (len cap : Nat) (mvs : List DM.Mv) (t : Int) (v : DM.Mv) (hm : MovesIn w a len mvs) (hl : len ≤ 65516) (hok : okD n room) (ht : t < 0 ∨ (n : Int) ≤ t) :
    Calls Try.prog 4 (aloneArgs n room a len cap t v) w (AlonePost w) := by
  have hlen : len = mvs.length := hm.1
  have h1 := ((Holds.self w).new w.heap.size rfl (.cells #[.int .i64 (n : Int), .int .i64 (room : Int)] 23 (0, 0))).new (w.heap.size + 1) (by simp) (.cells (encMv v).toArray 27 (0, 0))
  have HT := Lib.hid ht
  have HM := Lib.hid hm
  have HL := Lib.hid hlen
  have HO := Lib.hid hok
  have H1 : Hid (Holds w _ (aloneF w n room v)) := Lib.hid h1
  clear hm hlen hok h1 ht
  unfold aloneArgs dqV
  go_enter Try.func4, Try.ntmps4
  go_wp2_with fail
  refine (fits_at _ n room a len cap (by unfold maxLen; omega)).mono ?_
  rintro e w1 ⟨rfl, hb⟩
  rw [decide_eq_true (p := okD n room ∧ len ≤ 65536) ⟨HO.out, by omega⟩]
  have h2 := H1.out.of_below hb
  have c0 : w1.cell? ⟨w.heap.size, 0, none⟩ = some (.int .i64 n) := by unfold aloneF at h2; rw [h2.right.cell]; rfl
  have c1 : w1.cell? ⟨w.heap.size, 1, none⟩ = some (.int .i64 room) := by unfold aloneF at h2; rw [h2.right.cell]; rfl
  have H2 := Lib.hid h2
  clear hb h2 H1
  go_wp2_with fail
  refine (deque_made w _ n room _ HO.out H2.out).mono ?_
  rintro e w2 ⟨p, rfl, hp⟩
  have HP := Lib.hid hp
  clear hp c0 c1
  go_wp2_with fail
  refine (num_at _ _).mono ?_
  rintro e w' ⟨rfl, rfl⟩
  go_wp2_with fail
  refine (awake_yes _).mono ?_
  rintro e w3 ⟨rfl, hb3⟩
  have HP3 : Hid (Plays w p ((DM.init n room).runs (mvs.take 0)) (aloneF w n room v) w3) := HP.out.of_below hb3
  clear hb3 HP H2
  go_wp2_with fail
  go_loopw [11] (fun i wr => ∃ k : Nat, k ≤ len ∧ i = .int .i64 k ∧ Plays w p ((DM.init n room).runs (mvs.take k)) (aloneF w n room v) wr) (fun i _ => len - (intOf i).toNat)
  case atStart => exact ⟨0, Nat.zero_le _, rfl, HP3.out⟩
  case round =>
    obtain ⟨k, hk, rfl, hp⟩ := hrel
    clear HP3
    by_cases hlt : k < len
    · have hx := List.getElem?_eq_getElem (show k < mvs.length by rw [← HL.out]; exact hlt)
      generalize mvs[k] = u at hx
      obtain ⟨b, off, rfl, hok, e0, e1, e2, e3⟩ := HM.out.at hp.holds hx
      have HX := Lib.hid hx
      have HP := Lib.hid hp
      have HU := Lib.hid hok.2.2.1
      clear hx hp hok
      go_wp2_with fail
      refine (deque_mv w _ p u HU.out HP.out).mono ?_
      rintro e w' ⟨rfl, hp'⟩
      have HP' : Hid (Plays w p ((DM.init n room).runs (mvs.take (k + 1))) (aloneF w n room v) w') := by rw [DM.runs_take _ _ HX.out]; exact hp'
      clear hp'
      go_wp2_with fail
      go_roundw
      case rel => exact ⟨k + 1, by omega, by go_num, HP'.out⟩
      case measure => simp [intOf]; omega
    · have hke : k = len := by omega
      have hp2 : Plays w p ((DM.init n room).runs mvs) (aloneF w n room v) wr := by
        rw [List.take_of_length_le (by have := HL.out; omega)] at hp
        exact hp
      have c0 : wr.cell? ⟨w.heap.size, 0, none⟩ = some (.int .i64 n) := by have := hp.holds; unfold aloneF at this; rw [this.right.cell]; rfl
      have HP := Lib.hid hp2
      have HK := Lib.hid hke
      have hbz : ((DM.init n room).runs mvs).busy t = false := by
        have hal : ((DM.init n room).runs mvs).all.length = n := by rw [DM.runs_len]; simp [DM.init]
        exact decide_eq_false (fun h => by have := HT.out; rw [hal] at h; omega)
      have HB2 := Lib.hid hbz
      clear hp hp2 hke hbz
      rcases Int.lt_or_le t 0 with h0 | h0
      · have d0 : decide (t < 0) = true := by simp [h0]
        go_wp2_with fail
        refine (deque_bz w _ p t HP.out).mono ?_
        rintro e w' ⟨rfl, rfl⟩
        rw [HB2.out]
        go_wp2_with fail
        go_ret
        exact ⟨rfl, HP.out.holds.below⟩
      · have h1 : (n : Int) ≤ t := by have := HT.out; omega
        have d0 : decide (t < 0) = false := by simp [h0]
        have d1 : decide ((n : Int) ≤ t) = true := by simp [h1]
        go_wp2_with fail
        refine (deque_bz w _ p t HP.out).mono ?_
        rintro e w' ⟨rfl, rfl⟩
        rw [HB2.out]
        go_wp2_with fail
        go_ret
        exact ⟨rfl, HP.out.holds.below⟩

/-- The walk. -/
theorem alone_walk (w : World) (th room : Int) (a : Option Addr) (len cap : Nat) (mvs : List DM.Mv) (t : Int) (v : DM.Mv) (hm : MovesIn w a len mvs) (hv : MvOK v) :
    Calls Try.prog 4 (aloneArgs th room a len cap t v) w (AlonePost w) := by
  by_cases h1 : okD th room
  · by_cases h2 : len ≤ 65536
    · by_cases h3 : len ≤ 65516
      · obtain ⟨n, rfl⟩ := Int.eq_ofNat_of_zero_le (show 0 ≤ th by unfold okD at h1; omega)
        obtain ⟨r, rfl⟩ := Int.eq_ofNat_of_zero_le (show 0 ≤ room by unfold okD at h1; omega)
        by_cases h4 : t < 0 ∨ (n : Int) ≤ t
        · exact alone_out w n r a len cap mvs t v hm h3 h1 h4
        · obtain ⟨k, rfl⟩ := Int.eq_ofNat_of_zero_le (show 0 ≤ t by omega)
          exact alone_in w n r a len cap mvs k v hm h3 h1 hv (by omega)
      · exact alone_long w th room a len cap t v h2 h1 (by omega)
    · exact alone_unfit w th room a len cap t v hm.2.1 (fun h => h2 h.2)
  · exact alone_unfit w th room a len cap t v hm.2.1 (fun h => h1 h.1)

end Go.Proofs.Ythifeaigdobonaa
