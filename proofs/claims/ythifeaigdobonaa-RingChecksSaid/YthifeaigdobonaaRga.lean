/- The ring's task: a Put or a Pick, access by access. The ring's task: its steps. Printed by gen_ring_step.py. -/
import Derived.Test.YthifeaigdobonaaQui
import Derived.Test.YthifeaigdobonaaRma
import Derived.StillTailTactics
import Derived.Deep.RegionHeld3
namespace Go.Proofs.Ythifeaigdobonaa
open Go.RowKit

def rcO (cells : Int) (pick : Bool) (arg st n got : Int) : Obj := .cells #[.int .i64 cells, .bool pick, .int .i64 arg, .int .i64 st, .int .i64 n, .int .i64 got] 160 (0, 0)
def rbO (th cells : Int) : Obj := .cells #[.int .i64 th, .int .i64 cells] 75 (0, 0)
def bs (pick : Bool) : Int := if pick then 1 else 0
theorem un_small {v : Int} (h0 : 0 ≤ v) (h1 : v ≤ 1000000000) : un v = v := by
  unfold un
  have e : IntKind.u64.wrap v = v % 18446744073709551616 := by simp [IntKind.wrap, IntKind.bits, IntKind.signed]
  rw [e]; omega
def noK (pick : Bool) : Int := if pick then 3 else 4
theorem bs_01 (pick : Bool) : 0 ≤ bs pick ∧ bs pick ≤ 1 := by cases pick <;> simp [bs]
theorem wrap_un {v : Int} (h : I64 v) : wrap64 (un v) = v := sn_un h

theorem e_ans (W w : World) (q : EK) (ws : List Int) (log : List Acc) (task hub : Obj) (cs ss : Array Value) (S F : Hp) (us : Bool) (x y : Int) (hS : Env q us ws log task hub cs ss S) (h : Holds W w (S + F)) :
    Calls Try.prog 158 #[.pointer (some ⟨q.k.bd, 0, none⟩), .agg #[.int .i64 x, .int .i64 y]] w
      (EPost W q us ws log task hub cs ((ss.setIfInBounds q.os (.int .i64 x)).setIfInBounds (q.os + 1) (.int .i64 y)) F (.tuple #[])) := by
  obtain ⟨a1, a2, a3, a4, Sd, hd, rfl⟩ := hS
  have h0 := h.of_eq (show _ = Sd + (pt q.gs (.cells ss 137 (0, 0)) + (pt q.bt task + (pt q.bh hub + pt q.gc (.cells cs 66 (0, 0))) + F)) from by ac_rfl)
  refine (desk_answer W w q.k us (ws.map un) log Sd _ q.gs q.os ss x y hd a2 a4 h0).mono ?_
  rintro e w' ⟨rfl, h2⟩
  exact ⟨rfl, _, ⟨a1, a2, a3, by simpa using a4, Sd, hd, rfl⟩, h2.of_eq (by ac_rfl)⟩

theorem r_base (w : World) (bt : Nat) (pick : Bool) (c1 : w.cell? ⟨bt, 1, none⟩ = some (.bool pick)) :
    Calls Try.prog 182 #[.pointer (some ⟨bt, 0, none⟩)] w fun e w' => w = w' ∧ e = .returned (.int .i64 (bs pick)) := by
  cases pick
  all_goals
    go_enter Try.func182, Try.ntmps182
    go_wp2_with fail
    go_ret
    exact ⟨rfl, rfl⟩

theorem r_wants (w : World) (bt : Nat) (pick : Bool) (n : Int) (h0 : 0 ≤ n) (h1 : n ≤ 100000) (c1 : w.cell? ⟨bt, 1, none⟩ = some (.bool pick)) (c4 : w.cell? ⟨bt, 4, none⟩ = some (.int .i64 n)) :
    Calls Try.prog 184 #[.pointer (some ⟨bt, 0, none⟩)] w fun e w' => e = .returned (.int .i64 (n + bs pick)) ∧ ∃ m, w' = w.drewN m := by
  have hb := bs_01 pick
  have hw : IntKind.i64.wrap (n + bs pick) = n + bs pick := IntWalk.i64_in _ (by omega)
  have C := Lib.hid c1
  go_enter Try.func184, Try.ntmps184
  go_wp2_with fail
  go_quiet ((go_at_call 182; exact quiet_fact (r_base _ bt pick (by simpa using C.out))))
  go_wp2_with fail
  go_ret
  exact ⟨rfl, _, rfl⟩

section
variable (W w : World) (q : EK) (ws : List Int) (log : List Acc) (cells th arg st n got : Int) (pick : Bool) (cs ss : Array Value) (S F : Hp)

theorem r_ready (hS : Env q false ws log (rcO cells pick arg st n got) (rbO th cells) cs ss S) (h : Holds W w (S + F)) :
    Calls Try.prog 180 #[.pointer (some ⟨q.bt, 0, none⟩), .pointer (some ⟨q.k.bd, 0, none⟩)] w
      (EPost W q false ws log (rcO cells pick arg st n got) (rbO th cells) cs ss F (.bool false)) := by
  go_enter Try.func180, Try.ntmps180
  go_wp2
  go_ret
  exact ⟨rfl, S, hS, h⟩

theorem Env.rcell {W w : World} {q : EK} {us : Bool} {ws : List Int} {log : List Acc} {cells arg st n got : Int} {pick : Bool} {hub : Obj} {cs ss : Array Value} {S F : Hp} (hS : Env q us ws log (rcO cells pick arg st n got) hub cs ss S) (h : Holds W w (S + F)) :
    w.cell? ⟨q.bt, 0, none⟩ = some (.int .i64 cells) ∧ w.cell? ⟨q.bt, 1, none⟩ = some (.bool pick) ∧ w.cell? ⟨q.bt, 2, none⟩ = some (.int .i64 arg) ∧ w.cell? ⟨q.bt, 3, none⟩ = some (.int .i64 st) ∧ w.cell? ⟨q.bt, 4, none⟩ = some (.int .i64 n) ∧ w.cell? ⟨q.bt, 5, none⟩ = some (.int .i64 got) ∧ (∀ i, w.frozen? ⟨q.bt, i, none⟩ = false) := by
  obtain ⟨tc, tf, _⟩ := hS.tcell h
  exact ⟨by rw [tc]; rfl, by rw [tc]; rfl, by rw [tc]; rfl, by rw [tc]; rfl, by rw [tc]; rfl, by rw [tc]; rfl, tf⟩

set_option maxHeartbeats 1000000 in
theorem r_look_go (s : Int) (h0 : 0 ≤ n) (h1 : n ≤ 100000) (hs : s = n + bs pick) (hS : Env q true ws log (rcO cells pick arg st n got) (rbO th cells) cs ss S) (h : Holds W w (S + F)) :
    Calls Try.prog 183 #[.pointer (some ⟨q.bt, 0, none⟩), .pointer (some ⟨q.k.bd, 0, none⟩), .int .i64 s] w
      (EPost W q true ws log (rcO cells pick arg 2 n got) (rbO th cells) cs ss F (.bool false)) := by
  obtain ⟨c0, c1, c2, c3, c4, c5, fz⟩ := hS.rcell h
  have C1 := Lib.hid c1
  have C4 := Lib.hid c4
  have HS := Lib.hid hS
  have HH := Lib.hid h
  have HN := Lib.hid hs
  have f3 := fz 3
  clear hS h c0 c2 c5 fz c1 c4 hs
  go_enter Try.func183, Try.ntmps183
  go_wp2_with fail
  refine (r_wants w q.bt pick n h0 h1 C1.out C4.out).mono ?_
  rintro e w' ⟨rfl, m, rfl⟩
  have HH2 := Lib.hid (HH.out.drewN m)
  rw [← HN.out]
  obtain ⟨c0, c1, c2, c3', c4, c5, fz⟩ := HS.out.rcell HH2.out
  have f3 := fz 3
  generalize w.drewN m = w2 at *
  clear c0 c1 c2 c4 c5 fz c3 HN
  go_wp2_with fail
  go_ret
  obtain ⟨S1, k1, k2⟩ := HS.out.tset HH2.out 3 (.int .i64 2)
  exact ⟨rfl, S1, k1, k2⟩

set_option maxHeartbeats 1000000 in
theorem r_look_late (s : Int) (h0 : 0 ≤ n) (h1 : n ≤ 100000) (hs : n + bs pick < s) (hS : Env q true ws log (rcO cells pick arg st n got) (rbO th cells) cs ss S) (h : Holds W w (S + F)) :
    Calls Try.prog 183 #[.pointer (some ⟨q.bt, 0, none⟩), .pointer (some ⟨q.k.bd, 0, none⟩), .int .i64 s] w
      (EPost W q true ws log (rcO cells pick arg 0 n got) (rbO th cells) cs ss F (.bool false)) := by
  obtain ⟨c0, c1, c2, c3, c4, c5, fz⟩ := hS.rcell h
  have C1 := Lib.hid c1
  have C4 := Lib.hid c4
  have HS := Lib.hid hS
  have HH := Lib.hid h
  clear hS h c0 c2 c5 fz c1 c4 c3
  go_enter Try.func183, Try.ntmps183
  go_wp2_with fail
  refine (r_wants w q.bt pick n h0 h1 C1.out C4.out).mono ?_
  rintro e w' ⟨rfl, m, rfl⟩
  have HH2 := Lib.hid (HH.out.drewN m)
  obtain ⟨c0, c1, c2, c3', c4, c5, fz⟩ := HS.out.rcell HH2.out
  have C1 := Lib.hid c1
  have C4 := Lib.hid c4
  generalize w.drewN m = w2 at *
  clear c0 c1 c2 c4 c5 fz c3'
  have d : decide (s = n + bs pick) = false := decide_eq_false (by omega)
  go_wp2_with fail
  refine (r_wants w2 q.bt pick n h0 h1 C1.out C4.out).mono ?_
  rintro e w' ⟨rfl, m, rfl⟩
  have HH3 := Lib.hid (HH2.out.drewN m)
  obtain ⟨c0, c1, c2, c3, c4, c5, fz⟩ := HS.out.rcell HH3.out
  have f3 := fz 3
  generalize w2.drewN m = w3 at *
  clear c0 c1 c2 c4 c5 fz
  go_wp2_with fail
  go_ret
  obtain ⟨S1, k1, k2⟩ := HS.out.tset HH3.out 3 (.int .i64 0)
  exact ⟨rfl, S1, k1, k2⟩

set_option maxHeartbeats 1000000 in
theorem r_look_no (s : Int) (h0 : 0 ≤ n) (h1 : n ≤ 100000) (hs : s < n + bs pick) (hS : Env q true ws log (rcO cells pick arg st n got) (rbO th cells) cs ss S) (h : Holds W w (S + F)) :
    Calls Try.prog 183 #[.pointer (some ⟨q.bt, 0, none⟩), .pointer (some ⟨q.k.bd, 0, none⟩), .int .i64 s] w
      (EPost W q true ws log (rcO cells pick arg st n got) (rbO th cells) (cs.setIfInBounds (q.oc + 6) (.int .i64 q.k.nw)) ((ss.setIfInBounds q.os (.int .i64 (noK pick))).setIfInBounds (q.os + 1) (.int .i64 0)) F (.bool true)) := by
  obtain ⟨kd, hkd⟩ : ∃ kd : Int, kd = noK pick := ⟨_, rfl⟩
  rw [← hkd]
  have HK := Lib.hid hkd
  clear hkd
  obtain ⟨c0, c1, c2, c3, c4, c5, fz⟩ := hS.rcell h
  have C1 := Lib.hid c1
  have C4 := Lib.hid c4
  have HS := Lib.hid hS
  have HH := Lib.hid h
  clear hS h c0 c2 c5 fz c1 c4 c3
  go_enter Try.func183, Try.ntmps183
  go_wp2_with fail
  refine (r_wants w q.bt pick n h0 h1 C1.out C4.out).mono ?_
  rintro e w' ⟨rfl, m, rfl⟩
  have HH2 := Lib.hid (HH.out.drewN m)
  obtain ⟨c0, c1, c2, c3', c4, c5, fz⟩ := HS.out.rcell HH2.out
  have C1 := Lib.hid c1
  have C4 := Lib.hid c4
  generalize w.drewN m = w2 at *
  clear c0 c1 c2 c4 c5 fz c3'
  have d : decide (s = n + bs pick) = false := decide_eq_false (by omega)
  go_wp2_with fail
  refine (r_wants w2 q.bt pick n h0 h1 C1.out C4.out).mono ?_
  rintro e w' ⟨rfl, m, rfl⟩
  have HH3 := Lib.hid (HH2.out.drewN m)
  generalize w2.drewN m = w3 at *
  have d2 : decide (n + bs pick < s) = false := decide_eq_false (by omega)
  go_wp2_with fail
  refine (e_now W w3 q ws log _ _ cs ss S F true HS.out HH3.out).mono ?_
  rintro e w' ⟨rfl, rfl⟩
  go_wp2_with fail
  refine (e_point W w3 q ws log _ _ cs ss S F true q.k.nw HS.out HH3.out).mono ?_
  rintro e w4 ⟨rfl, S4, hS4, h4⟩
  obtain ⟨c0, c1, c2, c3, c4, c5, fz⟩ := hS4.rcell h4
  have HS4 := Lib.hid hS4
  have H4 := Lib.hid h4
  clear c0 c2 c3 c4 c5 fz hS4 h4 HH HH2 HH3 HS C1 C4 hs d d2
  cases pick
  all_goals
    obtain rfl := HK.out
    go_wp2_with fail
    refine (e_ans W w4 q ws log _ _ _ ss S4 F true _ 0 HS4.out H4.out).mono ?_
    rintro e w5 ⟨rfl, S5, hS5, h5⟩
    go_wp2_with fail
    go_ret
    exact ⟨rfl, S5, hS5, h5⟩
end

end Go.Proofs.Ythifeaigdobonaa

namespace Go.Proofs.Ythifeaigdobonaa
open Go.RowKit

section
variable (W w : World) (q : EK) (ws : List Int) (log : List Acc) (cells th arg st n got : Int) (pick : Bool) (cs ss : Array Value) (S F : Hp)

set_option maxHeartbeats 1000000 in
set_option maxRecDepth 100000 in
theorem r_step0 (k0 : 2 ≤ cells) (k1 : cells ≤ 64) (h0 : 0 ≤ n) (_h1 : n ≤ 100000) (hlen : (ws.length : Int) = 2 + 2 * cells) (h64 : ∀ i, I64 (wd ws i)) (hb : log.length < 1048576) (hS : Env q false ws log (rcO cells pick arg 0 n got) (rbO th cells) cs ss S) (h : Holds W w (S + F)) :
    Calls Try.prog 181 #[.pointer (some ⟨q.bt, 0, none⟩), .pointer (some ⟨q.k.bd, 0, none⟩)] w
      (EPost W q true ws (log ++ [⟨q.k.nw, q.k.th, 1, bs pick, 0, 0, un (wd ws (bs pick).toNat)⟩]) (rcO cells pick arg 1 (wd ws (bs pick).toNat) got) (rbO th cells) cs ss F (.bool false)) := by
  obtain ⟨c0, c1, c2, c3, c4, c5, fz⟩ := hS.rcell h
  have m0 := Int.emod_nonneg n (show cells ≠ 0 by omega)
  have m1 := Int.emod_lt_of_pos n (show 0 < cells by omega)
  have hne : ¬ cells = 0 := by omega
  have hr : Int.tmod n cells = n % cells := Int.tmod_eq_emod_of_nonneg h0
  have hw1 : IntKind.i64.wrap (2 * (n % cells)) = 2 * (n % cells) := IntWalk.i64_in _ (by omega)
  have hw2 : IntKind.i64.wrap (2 + 2 * (n % cells)) = 2 + 2 * (n % cells) := IntWalk.i64_in _ (by omega)
  have HS := Lib.hid hS
  have HH := Lib.hid h
  clear c1 c2 c3 c5 fz hS h
  go_enter Try.func181, Try.ntmps181
  go_wp2_with fail
  go_quiet (fail)
  have H1 := Lib.hid (HH.out.drewN nq)
  generalize w.drewN nq = w1 at *
  clear HH c0 c4 hr hw1 hw2
  obtain ⟨c0, c1, c2, c3, c4, c5, fz⟩ := HS.out.rcell H1.out
  have hb1 := bs_01 pick
  have C1 := Lib.hid c1
  clear c0 c2 c4 c5 fz c1
  go_wp2_with fail
  refine (r_base w1 q.bt pick C1.out).mono ?_
  rintro e w' ⟨rfl, rfl⟩
  go_wp2_with fail
  refine (e_load W _ q ws log _ _ cs ss S F (bs pick) hb1.1 (by omega) hb HS.out H1.out).mono ?_
  rintro e w2 ⟨rfl, S2, hS2, h2⟩
  obtain ⟨c0, c1, c2, c3', c4, c5, fz⟩ := hS2.rcell h2
  have f4 := fz 4
  have f3 := fz 3
  have HS2 := Lib.hid hS2
  have H2 := Lib.hid h2
  have HW := Lib.hid (wrap_un (h64 (bs pick).toNat))
  clear c0 c1 c2 c3 c5 fz HS H1 C1 hS2 h2
  go_wp2_with fail
  go_ret
  obtain ⟨S3, a1, a2⟩ := HS2.out.tset H2.out 4 (.int .i64 (wrap64 (un (wd ws (bs pick).toNat))))
  obtain ⟨S4, b1, b2⟩ := a1.tset a2 3 (.int .i64 1)
  refine ⟨rfl, S4, ?_, b2⟩
  have e := HW.out
  simp only [List.setIfInBounds_toArray, List.set_cons_zero, List.set_cons_succ, e] at b1
  exact b1

set_option maxHeartbeats 1000000 in
set_option maxRecDepth 100000 in
theorem r_step1_go (k0 : 2 ≤ cells) (k1 : cells ≤ 64) (h0 : 0 ≤ n) (h1 : n ≤ 100000) (hlen : (ws.length : Int) = 2 + 2 * cells) (h64 : ∀ i, I64 (wd ws i)) (hb : log.length < 1048576) (hs : wd ws (2 + 2 * (n % cells)).toNat = n + bs pick) (hS : Env q false ws log (rcO cells pick arg 1 n got) (rbO th cells) cs ss S) (h : Holds W w (S + F)) :
    Calls Try.prog 181 #[.pointer (some ⟨q.bt, 0, none⟩), .pointer (some ⟨q.k.bd, 0, none⟩)] w
      (EPost W q true ws (log ++ [⟨q.k.nw, q.k.th, 1, (2 + 2 * (n % cells)), 0, 0, un (wd ws (2 + 2 * (n % cells)).toNat)⟩]) (rcO cells pick arg 2 n got) (rbO th cells) cs ss F (.bool false)) := by
  obtain ⟨c0, c1, c2, c3, c4, c5, fz⟩ := hS.rcell h
  have m0 := Int.emod_nonneg n (show cells ≠ 0 by omega)
  have m1 := Int.emod_lt_of_pos n (show 0 < cells by omega)
  have hne : ¬ cells = 0 := by omega
  have hr : Int.tmod n cells = n % cells := Int.tmod_eq_emod_of_nonneg h0
  have hw1 : IntKind.i64.wrap (2 * (n % cells)) = 2 * (n % cells) := IntWalk.i64_in _ (by omega)
  have hw2 : IntKind.i64.wrap (2 + 2 * (n % cells)) = 2 + 2 * (n % cells) := IntWalk.i64_in _ (by omega)
  have HS := Lib.hid hS
  have HH := Lib.hid h
  clear c1 c2 c3 c5 fz hS h
  go_enter Try.func181, Try.ntmps181
  go_wp2_with fail
  go_quiet (fail)
  have H1 := Lib.hid (HH.out.drewN nq)
  generalize w.drewN nq = w1 at *
  clear HH c0 c4 hr hw1 hw2
  obtain ⟨c0, c1, c2, c3, c4, c5, fz⟩ := HS.out.rcell H1.out
  have HW := Lib.hid (wrap_un (h64 (2 + 2 * (n % cells)).toNat))
  have HX := Lib.hid hs
  clear c0 c1 c2 c4 c5 fz hs
  go_wp2_with fail
  refine (e_load W _ q ws log _ _ cs ss S F (2 + 2 * (n % cells)) (by omega) (by omega) hb HS.out H1.out).mono ?_
  rintro e w2 ⟨rfl, S2, hS2, h2⟩
  have HS2 := Lib.hid hS2
  have H2 := Lib.hid h2
  clear hS2 h2 HS H1 c3
  go_wp2_with fail
  refine (r_look_go W w2 q ws _ cells th arg 1 n got pick cs ss S2 F _ h0 h1 (by first | (rw [HW.out]; exact HX.out) | (have := HW.out; have := HX.out; omega)) HS2.out H2.out).mono ?_
  rintro e w3 ⟨rfl, S3, hS3, h3⟩
  go_wp2_with fail
  go_ret
  exact ⟨rfl, S3, hS3, h3⟩

set_option maxHeartbeats 1000000 in
set_option maxRecDepth 100000 in
theorem r_step1_late (k0 : 2 ≤ cells) (k1 : cells ≤ 64) (h0 : 0 ≤ n) (h1 : n ≤ 100000) (hlen : (ws.length : Int) = 2 + 2 * cells) (h64 : ∀ i, I64 (wd ws i)) (hb : log.length < 1048576) (hs : n + bs pick < wd ws (2 + 2 * (n % cells)).toNat) (hS : Env q false ws log (rcO cells pick arg 1 n got) (rbO th cells) cs ss S) (h : Holds W w (S + F)) :
    Calls Try.prog 181 #[.pointer (some ⟨q.bt, 0, none⟩), .pointer (some ⟨q.k.bd, 0, none⟩)] w
      (EPost W q true ws (log ++ [⟨q.k.nw, q.k.th, 1, (2 + 2 * (n % cells)), 0, 0, un (wd ws (2 + 2 * (n % cells)).toNat)⟩]) (rcO cells pick arg 0 n got) (rbO th cells) cs ss F (.bool false)) := by
  obtain ⟨c0, c1, c2, c3, c4, c5, fz⟩ := hS.rcell h
  have m0 := Int.emod_nonneg n (show cells ≠ 0 by omega)
  have m1 := Int.emod_lt_of_pos n (show 0 < cells by omega)
  have hne : ¬ cells = 0 := by omega
  have hr : Int.tmod n cells = n % cells := Int.tmod_eq_emod_of_nonneg h0
  have hw1 : IntKind.i64.wrap (2 * (n % cells)) = 2 * (n % cells) := IntWalk.i64_in _ (by omega)
  have hw2 : IntKind.i64.wrap (2 + 2 * (n % cells)) = 2 + 2 * (n % cells) := IntWalk.i64_in _ (by omega)
  have HS := Lib.hid hS
  have HH := Lib.hid h
  clear c1 c2 c3 c5 fz hS h
  go_enter Try.func181, Try.ntmps181
  go_wp2_with fail
  go_quiet (fail)
  have H1 := Lib.hid (HH.out.drewN nq)
  generalize w.drewN nq = w1 at *
  clear HH c0 c4 hr hw1 hw2
  obtain ⟨c0, c1, c2, c3, c4, c5, fz⟩ := HS.out.rcell H1.out
  have HW := Lib.hid (wrap_un (h64 (2 + 2 * (n % cells)).toNat))
  have HX := Lib.hid hs
  clear c0 c1 c2 c4 c5 fz hs
  go_wp2_with fail
  refine (e_load W _ q ws log _ _ cs ss S F (2 + 2 * (n % cells)) (by omega) (by omega) hb HS.out H1.out).mono ?_
  rintro e w2 ⟨rfl, S2, hS2, h2⟩
  have HS2 := Lib.hid hS2
  have H2 := Lib.hid h2
  clear hS2 h2 HS H1 c3
  go_wp2_with fail
  refine (r_look_late W w2 q ws _ cells th arg 1 n got pick cs ss S2 F _ h0 h1 (by first | (rw [HW.out]; exact HX.out) | (have := HW.out; have := HX.out; omega)) HS2.out H2.out).mono ?_
  rintro e w3 ⟨rfl, S3, hS3, h3⟩
  go_wp2_with fail
  go_ret
  exact ⟨rfl, S3, hS3, h3⟩

set_option maxHeartbeats 1000000 in
set_option maxRecDepth 100000 in
theorem r_step1_no (k0 : 2 ≤ cells) (k1 : cells ≤ 64) (h0 : 0 ≤ n) (h1 : n ≤ 100000) (hlen : (ws.length : Int) = 2 + 2 * cells) (h64 : ∀ i, I64 (wd ws i)) (hb : log.length < 1048576) (hs : wd ws (2 + 2 * (n % cells)).toNat < n + bs pick) (hS : Env q false ws log (rcO cells pick arg 1 n got) (rbO th cells) cs ss S) (h : Holds W w (S + F)) :
    Calls Try.prog 181 #[.pointer (some ⟨q.bt, 0, none⟩), .pointer (some ⟨q.k.bd, 0, none⟩)] w
      (EPost W q true ws (log ++ [⟨q.k.nw, q.k.th, 1, (2 + 2 * (n % cells)), 0, 0, un (wd ws (2 + 2 * (n % cells)).toNat)⟩]) (rcO cells pick arg 1 n got) (rbO th cells) (cs.setIfInBounds (q.oc + 6) (.int .i64 q.k.nw)) ((ss.setIfInBounds q.os (.int .i64 (noK pick))).setIfInBounds (q.os + 1) (.int .i64 0)) F (.bool true)) := by
  obtain ⟨c0, c1, c2, c3, c4, c5, fz⟩ := hS.rcell h
  have m0 := Int.emod_nonneg n (show cells ≠ 0 by omega)
  have m1 := Int.emod_lt_of_pos n (show 0 < cells by omega)
  have hne : ¬ cells = 0 := by omega
  have hr : Int.tmod n cells = n % cells := Int.tmod_eq_emod_of_nonneg h0
  have hw1 : IntKind.i64.wrap (2 * (n % cells)) = 2 * (n % cells) := IntWalk.i64_in _ (by omega)
  have hw2 : IntKind.i64.wrap (2 + 2 * (n % cells)) = 2 + 2 * (n % cells) := IntWalk.i64_in _ (by omega)
  have HS := Lib.hid hS
  have HH := Lib.hid h
  clear c1 c2 c3 c5 fz hS h
  go_enter Try.func181, Try.ntmps181
  go_wp2_with fail
  go_quiet (fail)
  have H1 := Lib.hid (HH.out.drewN nq)
  generalize w.drewN nq = w1 at *
  clear HH c0 c4 hr hw1 hw2
  obtain ⟨c0, c1, c2, c3, c4, c5, fz⟩ := HS.out.rcell H1.out
  have HW := Lib.hid (wrap_un (h64 (2 + 2 * (n % cells)).toNat))
  have HX := Lib.hid hs
  clear c0 c1 c2 c4 c5 fz hs
  go_wp2_with fail
  refine (e_load W _ q ws log _ _ cs ss S F (2 + 2 * (n % cells)) (by omega) (by omega) hb HS.out H1.out).mono ?_
  rintro e w2 ⟨rfl, S2, hS2, h2⟩
  have HS2 := Lib.hid hS2
  have H2 := Lib.hid h2
  clear hS2 h2 HS H1 c3
  go_wp2_with fail
  refine (r_look_no W w2 q ws _ cells th arg 1 n got pick cs ss S2 F _ h0 h1 (by first | (rw [HW.out]; exact HX.out) | (have := HW.out; have := HX.out; omega)) HS2.out H2.out).mono ?_
  rintro e w3 ⟨rfl, S3, hS3, h3⟩
  go_wp2_with fail
  go_ret
  exact ⟨rfl, S3, hS3, h3⟩

set_option maxHeartbeats 1000000 in
set_option maxRecDepth 100000 in
theorem r_step2_yes (k0 : 2 ≤ cells) (k1 : cells ≤ 64) (h0 : 0 ≤ n) (h1 : n ≤ 100000) (hlen : (ws.length : Int) = 2 + 2 * cells) (h64 : ∀ i, I64 (wd ws i)) (hb : log.length < 1048576) (hs : wd ws (bs pick).toNat = n) (hS : Env q false ws log (rcO cells pick arg 2 n got) (rbO th cells) cs ss S) (h : Holds W w (S + F)) :
    Calls Try.prog 181 #[.pointer (some ⟨q.bt, 0, none⟩), .pointer (some ⟨q.k.bd, 0, none⟩)] w
      (EPost W q true (ws.set (bs pick).toNat (n + 1)) (log ++ [⟨q.k.nw, q.k.th, 3, bs pick, un n, un (n + 1), un (wd ws (bs pick).toNat)⟩]) (rcO cells pick arg 3 n got) (rbO th cells) (cs.setIfInBounds (q.oc + 6) (.int .i64 q.k.nw)) ss F (.bool false)) := by
  obtain ⟨c0, c1, c2, c3, c4, c5, fz⟩ := hS.rcell h
  have m0 := Int.emod_nonneg n (show cells ≠ 0 by omega)
  have m1 := Int.emod_lt_of_pos n (show 0 < cells by omega)
  have hne : ¬ cells = 0 := by omega
  have hr : Int.tmod n cells = n % cells := Int.tmod_eq_emod_of_nonneg h0
  have hw1 : IntKind.i64.wrap (2 * (n % cells)) = 2 * (n % cells) := IntWalk.i64_in _ (by omega)
  have hw2 : IntKind.i64.wrap (2 + 2 * (n % cells)) = 2 + 2 * (n % cells) := IntWalk.i64_in _ (by omega)
  have HS := Lib.hid hS
  have HH := Lib.hid h
  clear c1 c2 c3 c5 fz hS h
  go_enter Try.func181, Try.ntmps181
  go_wp2_with fail
  go_quiet (fail)
  have H1 := Lib.hid (HH.out.drewN nq)
  generalize w.drewN nq = w1 at *
  clear HH c0 c4 hr hw1 hw2
  obtain ⟨c0, c1, c2, c3, c4, c5, fz⟩ := HS.out.rcell H1.out
  have hb1 := bs_01 pick
  have HX := Lib.hid hs
  have f3 := fz 3
  clear c0 c1 c2 c4 c5 fz hs
  obtain ⟨S2, a1, a2⟩ := HS.out.tset H1.out 3 (.int .i64 0)
  have HS2 : Hid (Env q false ws log (rcO cells pick arg 0 n got) (rbO th cells) cs ss S2) := a1
  have H2 := Lib.hid a2
  clear a1 a2 HS H1
  go_upto_region 10 with fail
  generalize w1.setCell ⟨q.bt, 3, none⟩ (.int .i64 0) = w2 at *
  obtain ⟨c0, c1, c2, c3', c4, c5, fz⟩ := HS2.out.rcell H2.out
  have hw : IntKind.i64.wrap (n + 1) = n + 1 := IntWalk.i64_in _ (by omega)
  have HD := Lib.hid H2.out.drew
  clear c0 c2 c3 c3' c5 fz f3 H2
  go_region_held3 (fun w' => w'.cell? ⟨q.bt, 1, none⟩ = some (.bool pick) ∧ w'.cell? ⟨q.bt, 4, none⟩ = some (.int .i64 n)) (go_keep)
    (first
      | (go_at_call 182; refine (r_base _ q.bt pick (by assumption)).mono ?_; rintro e w' ⟨rfl, rfl⟩)
      | (go_at_call 172; refine (e_swap W _ q ws log _ _ cs ss S2 F (bs pick) n (n + 1) hb1.1 (by omega) (h64 _) (I64.small (by omega) (by omega)) hb HS2.out HD.out).mono ?_; rintro e w3 ⟨rfl, S3, hS3, h3⟩; obtain ⟨d0, d1, d2, d3, d4, d5, dz⟩ := hS3.rcell h3; clear d0 d2 d3 d5 dz))
  clear c1 c4 hw d1 d4 HS2 HD
  rw [show swb ws (bs pick).toNat n = true from by unfold swb; exact decide_eq_true HX.out] at *
  rw [show swp ws (bs pick).toNat n (n + 1) = ws.set (bs pick).toNat (n + 1) from by unfold swp; rw [if_pos HX.out]] at *
  have HS3 := Lib.hid hS3
  have H3 := Lib.hid h3
  clear hS3 h3
  go_wp2_with fail
  refine (e_now W w3 q _ _ _ _ cs ss S3 F true HS3.out H3.out).mono ?_
  rintro e w' ⟨rfl, rfl⟩
  go_wp2_with fail
  refine (e_point W w3 q _ _ _ _ cs ss S3 F true q.k.nw HS3.out H3.out).mono ?_
  rintro e w4 ⟨rfl, S4, hS4, h4⟩
  obtain ⟨c0, c1, c2, c3, c4, c5, fz⟩ := hS4.rcell h4
  have f3 := fz 3
  clear c0 c1 c2 c4 c5 fz
  go_wp2_with fail
  go_ret
  obtain ⟨S5, b1, b2⟩ := hS4.tset h4 3 (.int .i64 3)
  exact ⟨rfl, S5, b1, b2⟩

set_option maxHeartbeats 1000000 in
set_option maxRecDepth 100000 in
theorem r_step2_no (k0 : 2 ≤ cells) (k1 : cells ≤ 64) (h0 : 0 ≤ n) (h1 : n ≤ 100000) (hlen : (ws.length : Int) = 2 + 2 * cells) (h64 : ∀ i, I64 (wd ws i)) (hb : log.length < 1048576) (hs : ¬ wd ws (bs pick).toNat = n) (hS : Env q false ws log (rcO cells pick arg 2 n got) (rbO th cells) cs ss S) (h : Holds W w (S + F)) :
    Calls Try.prog 181 #[.pointer (some ⟨q.bt, 0, none⟩), .pointer (some ⟨q.k.bd, 0, none⟩)] w
      (EPost W q true ws (log ++ [⟨q.k.nw, q.k.th, 3, bs pick, un n, un (n + 1), un (wd ws (bs pick).toNat)⟩]) (rcO cells pick arg 0 n got) (rbO th cells) cs ss F (.bool false)) := by
  obtain ⟨c0, c1, c2, c3, c4, c5, fz⟩ := hS.rcell h
  have m0 := Int.emod_nonneg n (show cells ≠ 0 by omega)
  have m1 := Int.emod_lt_of_pos n (show 0 < cells by omega)
  have hne : ¬ cells = 0 := by omega
  have hr : Int.tmod n cells = n % cells := Int.tmod_eq_emod_of_nonneg h0
  have hw1 : IntKind.i64.wrap (2 * (n % cells)) = 2 * (n % cells) := IntWalk.i64_in _ (by omega)
  have hw2 : IntKind.i64.wrap (2 + 2 * (n % cells)) = 2 + 2 * (n % cells) := IntWalk.i64_in _ (by omega)
  have HS := Lib.hid hS
  have HH := Lib.hid h
  clear c1 c2 c3 c5 fz hS h
  go_enter Try.func181, Try.ntmps181
  go_wp2_with fail
  go_quiet (fail)
  have H1 := Lib.hid (HH.out.drewN nq)
  generalize w.drewN nq = w1 at *
  clear HH c0 c4 hr hw1 hw2
  obtain ⟨c0, c1, c2, c3, c4, c5, fz⟩ := HS.out.rcell H1.out
  have hb1 := bs_01 pick
  have HX := Lib.hid hs
  have f3 := fz 3
  clear c0 c1 c2 c4 c5 fz hs
  obtain ⟨S2, a1, a2⟩ := HS.out.tset H1.out 3 (.int .i64 0)
  have HS2 : Hid (Env q false ws log (rcO cells pick arg 0 n got) (rbO th cells) cs ss S2) := a1
  have H2 := Lib.hid a2
  clear a1 a2 HS H1
  go_upto_region 10 with fail
  generalize w1.setCell ⟨q.bt, 3, none⟩ (.int .i64 0) = w2 at *
  obtain ⟨c0, c1, c2, c3', c4, c5, fz⟩ := HS2.out.rcell H2.out
  have hw : IntKind.i64.wrap (n + 1) = n + 1 := IntWalk.i64_in _ (by omega)
  have HD := Lib.hid H2.out.drew
  clear c0 c2 c3 c3' c5 fz f3 H2
  go_region_held3 (fun w' => w'.cell? ⟨q.bt, 1, none⟩ = some (.bool pick) ∧ w'.cell? ⟨q.bt, 4, none⟩ = some (.int .i64 n)) (go_keep)
    (first
      | (go_at_call 182; refine (r_base _ q.bt pick (by assumption)).mono ?_; rintro e w' ⟨rfl, rfl⟩)
      | (go_at_call 172; refine (e_swap W _ q ws log _ _ cs ss S2 F (bs pick) n (n + 1) hb1.1 (by omega) (h64 _) (I64.small (by omega) (by omega)) hb HS2.out HD.out).mono ?_; rintro e w3 ⟨rfl, S3, hS3, h3⟩; obtain ⟨d0, d1, d2, d3, d4, d5, dz⟩ := hS3.rcell h3; clear d0 d2 d3 d5 dz))
  clear c1 c4 hw d1 d4 HS2 HD
  rw [show swb ws (bs pick).toNat n = false from by unfold swb; exact decide_eq_false HX.out] at *
  rw [show swp ws (bs pick).toNat n (n + 1) = ws from by unfold swp; rw [if_neg HX.out]] at *
  go_wp2_with fail
  go_ret
  exact ⟨rfl, S3, hS3, h3⟩

set_option maxHeartbeats 1000000 in
set_option maxRecDepth 100000 in
theorem r_step3_pick (k0 : 2 ≤ cells) (k1 : cells ≤ 64) (h0 : 0 ≤ n) (_h1 : n ≤ 100000) (hlen : (ws.length : Int) = 2 + 2 * cells) (h64 : ∀ i, I64 (wd ws i)) (hb : log.length < 1048576) (hS : Env q false ws log (rcO cells true arg 3 n got) (rbO th cells) cs ss S) (h : Holds W w (S + F)) :
    Calls Try.prog 181 #[.pointer (some ⟨q.bt, 0, none⟩), .pointer (some ⟨q.k.bd, 0, none⟩)] w
      (EPost W q true ws (log ++ [⟨q.k.nw, q.k.th, 1, 2 + 2 * (n % cells) + 1, 0, 0, un (wd ws (2 + 2 * (n % cells) + 1).toNat)⟩]) (rcO cells true arg 4 n (wd ws (2 + 2 * (n % cells) + 1).toNat)) (rbO th cells) cs ss F (.bool false)) := by
  obtain ⟨c0, c1, c2, c3, c4, c5, fz⟩ := hS.rcell h
  have m0 := Int.emod_nonneg n (show cells ≠ 0 by omega)
  have m1 := Int.emod_lt_of_pos n (show 0 < cells by omega)
  have hne : ¬ cells = 0 := by omega
  have hr : Int.tmod n cells = n % cells := Int.tmod_eq_emod_of_nonneg h0
  have hw1 : IntKind.i64.wrap (2 * (n % cells)) = 2 * (n % cells) := IntWalk.i64_in _ (by omega)
  have hw2 : IntKind.i64.wrap (2 + 2 * (n % cells)) = 2 + 2 * (n % cells) := IntWalk.i64_in _ (by omega)
  have HS := Lib.hid hS
  have HH := Lib.hid h
  clear c1 c2 c3 c5 fz hS h
  go_enter Try.func181, Try.ntmps181
  go_wp2_with fail
  go_quiet (fail)
  have H1 := Lib.hid (HH.out.drewN nq)
  generalize w.drewN nq = w1 at *
  clear HH c0 c4 hr hw1 hw2
  obtain ⟨c0, c1, c2, c3, c4, c5, fz⟩ := HS.out.rcell H1.out
  have HW := Lib.hid (wrap_un (h64 (2 + 2 * (n % cells) + 1).toNat))
  clear c0 c2 c4 c5 fz
  go_wp2_with fail
  refine (e_load W _ q ws log _ _ cs ss S F (2 + 2 * (n % cells) + 1) (by omega) (by omega) hb HS.out H1.out).mono ?_
  rintro e w2 ⟨rfl, S2, hS2, h2⟩
  obtain ⟨c0, c1', c2, c3', c4, c5, fz⟩ := hS2.rcell h2
  have f5 := fz 5
  have f3 := fz 3
  have HS2 := Lib.hid hS2
  have H2 := Lib.hid h2
  clear c0 c1 c1' c2 c3 c4 fz HS H1 hS2 h2
  go_wp2_with fail
  go_ret
  obtain ⟨S3, a1, a2⟩ := HS2.out.tset H2.out 5 (.int .i64 (wrap64 (un (wd ws (2 + 2 * (n % cells) + 1).toNat))))
  obtain ⟨S4, b1, b2⟩ := a1.tset a2 3 (.int .i64 4)
  refine ⟨rfl, S4, ?_, b2⟩
  have e := HW.out
  simp only [List.setIfInBounds_toArray, List.set_cons_zero, List.set_cons_succ, e] at b1
  exact b1

set_option maxHeartbeats 1000000 in
set_option maxRecDepth 100000 in
theorem r_step3_put (k0 : 2 ≤ cells) (k1 : cells ≤ 64) (h0 : 0 ≤ n) (_h1 : n ≤ 100000) (hlen : (ws.length : Int) = 2 + 2 * cells) (_h64 : ∀ i, I64 (wd ws i)) (hb : log.length < 1048576) (hS : Env q false ws log (rcO cells false arg 3 n got) (rbO th cells) cs ss S) (h : Holds W w (S + F)) :
    Calls Try.prog 181 #[.pointer (some ⟨q.bt, 0, none⟩), .pointer (some ⟨q.k.bd, 0, none⟩)] w
      (EPost W q true (ws.set (2 + 2 * (n % cells) + 1).toNat arg) (log ++ [⟨q.k.nw, q.k.th, 2, 2 + 2 * (n % cells) + 1, 0, un arg, 0⟩]) (rcO cells false arg 4 n got) (rbO th cells) cs ss F (.bool false)) := by
  obtain ⟨c0, c1, c2, c3, c4, c5, fz⟩ := hS.rcell h
  have m0 := Int.emod_nonneg n (show cells ≠ 0 by omega)
  have m1 := Int.emod_lt_of_pos n (show 0 < cells by omega)
  have hne : ¬ cells = 0 := by omega
  have hr : Int.tmod n cells = n % cells := Int.tmod_eq_emod_of_nonneg h0
  have hw1 : IntKind.i64.wrap (2 * (n % cells)) = 2 * (n % cells) := IntWalk.i64_in _ (by omega)
  have hw2 : IntKind.i64.wrap (2 + 2 * (n % cells)) = 2 + 2 * (n % cells) := IntWalk.i64_in _ (by omega)
  have HS := Lib.hid hS
  have HH := Lib.hid h
  clear c1 c2 c3 c5 fz hS h
  go_enter Try.func181, Try.ntmps181
  go_wp2_with fail
  go_quiet (fail)
  have H1 := Lib.hid (HH.out.drewN nq)
  generalize w.drewN nq = w1 at *
  clear HH c0 c4 hr hw1 hw2
  obtain ⟨c0, c1, c2, c3, c4, c5, fz⟩ := HS.out.rcell H1.out
  clear c0 c4 c5 fz
  go_wp2_with fail
  refine (e_store W _ q ws log _ _ cs ss S F (2 + 2 * (n % cells) + 1) arg (by omega) (by omega) hb HS.out H1.out).mono ?_
  rintro e w2 ⟨rfl, S2, hS2, h2⟩
  obtain ⟨c0, c1', c2', c3', c4, c5, fz⟩ := hS2.rcell h2
  have f3 := fz 3
  have HS2 := Lib.hid hS2
  have H2 := Lib.hid h2
  clear c0 c1 c1' c2 c2' c3 c4 c5 fz HS H1 hS2 h2
  go_wp2_with fail
  go_ret
  obtain ⟨S4, b1, b2⟩ := HS2.out.tset H2.out 3 (.int .i64 4)
  exact ⟨rfl, S4, b1, b2⟩

set_option maxHeartbeats 1000000 in
set_option maxRecDepth 100000 in
theorem r_step4_put (k0 : 2 ≤ cells) (k1 : cells ≤ 64) (h0 : 0 ≤ n) (h1 : n ≤ 100000) (hlen : (ws.length : Int) = 2 + 2 * cells) (_h64 : ∀ i, I64 (wd ws i)) (hb : log.length < 1048576) (hS : Env q false ws log (rcO cells false arg 4 n got) (rbO th cells) cs ss S) (h : Holds W w (S + F)) :
    Calls Try.prog 181 #[.pointer (some ⟨q.bt, 0, none⟩), .pointer (some ⟨q.k.bd, 0, none⟩)] w
      (EPost W q true (ws.set (2 + 2 * (n % cells)).toNat (n + 1)) (log ++ [⟨q.k.nw, q.k.th, 2, (2 + 2 * (n % cells)), 0, un (n + 1), 0⟩]) (rcO cells false arg 4 n got) (rbO th cells) cs ss F (.bool true)) := by
  obtain ⟨c0, c1, c2, c3, c4, c5, fz⟩ := hS.rcell h
  have m0 := Int.emod_nonneg n (show cells ≠ 0 by omega)
  have m1 := Int.emod_lt_of_pos n (show 0 < cells by omega)
  have hne : ¬ cells = 0 := by omega
  have hr : Int.tmod n cells = n % cells := Int.tmod_eq_emod_of_nonneg h0
  have hw1 : IntKind.i64.wrap (2 * (n % cells)) = 2 * (n % cells) := IntWalk.i64_in _ (by omega)
  have hw2 : IntKind.i64.wrap (2 + 2 * (n % cells)) = 2 + 2 * (n % cells) := IntWalk.i64_in _ (by omega)
  have HS := Lib.hid hS
  have HH := Lib.hid h
  clear c1 c2 c3 c5 fz hS h
  go_enter Try.func181, Try.ntmps181
  go_wp2_with fail
  go_quiet (fail)
  have H1 := Lib.hid (HH.out.drewN nq)
  generalize w.drewN nq = w1 at *
  clear HH c0 c4 hr hw1 hw2
  obtain ⟨c0, c1, c2, c3, c4, c5, fz⟩ := HS.out.rcell H1.out
  clear c0 c2 c5 fz
  go_wp2_with fail
  have hun : un (n + 1) = n + 1 := un_small (by omega) (by omega)
  have HC := e_store W w1 q ws log _ _ cs ss S F (2 + 2 * (n % cells)) (n + 1) (by omega) (by omega) hb HS.out H1.out
  rw [hun] at HC
  refine HC.mono ?_
  rintro e w2 ⟨rfl, S2, hS2, h2⟩
  have HS2 := Lib.hid hS2
  have H2 := Lib.hid h2
  clear hS2 h2
  go_wp2_with fail
  go_ret
  exact ⟨rfl, S2, by rw [hun]; exact HS2.out, H2.out⟩

set_option maxHeartbeats 1000000 in
set_option maxRecDepth 100000 in
theorem r_step4_pick (k0 : 2 ≤ cells) (k1 : cells ≤ 64) (h0 : 0 ≤ n) (h1 : n ≤ 100000) (hlen : (ws.length : Int) = 2 + 2 * cells) (_h64 : ∀ i, I64 (wd ws i)) (hb : log.length < 1048576) (hS : Env q false ws log (rcO cells true arg 4 n got) (rbO th cells) cs ss S) (h : Holds W w (S + F)) :
    Calls Try.prog 181 #[.pointer (some ⟨q.bt, 0, none⟩), .pointer (some ⟨q.k.bd, 0, none⟩)] w
      (EPost W q true (ws.set (2 + 2 * (n % cells)).toNat (n + cells)) (log ++ [⟨q.k.nw, q.k.th, 2, (2 + 2 * (n % cells)), 0, un (n + cells), 0⟩]) (rcO cells true arg 4 n got) (rbO th cells) cs ((ss.setIfInBounds q.os (.int .i64 2)).setIfInBounds (q.os + 1) (.int .i64 got)) F (.bool true)) := by
  obtain ⟨c0, c1, c2, c3, c4, c5, fz⟩ := hS.rcell h
  have m0 := Int.emod_nonneg n (show cells ≠ 0 by omega)
  have m1 := Int.emod_lt_of_pos n (show 0 < cells by omega)
  have hne : ¬ cells = 0 := by omega
  have hr : Int.tmod n cells = n % cells := Int.tmod_eq_emod_of_nonneg h0
  have hw1 : IntKind.i64.wrap (2 * (n % cells)) = 2 * (n % cells) := IntWalk.i64_in _ (by omega)
  have hw2 : IntKind.i64.wrap (2 + 2 * (n % cells)) = 2 + 2 * (n % cells) := IntWalk.i64_in _ (by omega)
  have HS := Lib.hid hS
  have HH := Lib.hid h
  clear c1 c2 c3 c5 fz hS h
  go_enter Try.func181, Try.ntmps181
  go_wp2_with fail
  go_quiet (fail)
  have H1 := Lib.hid (HH.out.drewN nq)
  generalize w.drewN nq = w1 at *
  clear HH c0 c4 hr hw1 hw2
  obtain ⟨c0, c1, c2, c3, c4, c5, fz⟩ := HS.out.rcell H1.out
  clear c2 fz
  go_upto_region 22 with fail
  have hw : IntKind.i64.wrap (n + cells) = n + cells := IntWalk.i64_in _ (by omega)
  have HD := Lib.hid H1.out.drew
  clear H1
  go_still_tail 12, (by kernel_rfl)
  go_wp2_with fail
  have hun : un (n + cells) = n + cells := un_small (by omega) (by omega)
  have HC := e_store W w1.drew q ws log _ _ cs ss S F (2 + 2 * (n % cells)) (n + cells) (by omega) (by omega) hb HS.out HD.out
  rw [hun] at HC
  refine HC.mono ?_
  rintro e w3 ⟨rfl, S3, hS3, h3⟩
  obtain ⟨d0, d1, d2, d3, d4, d5, dz⟩ := hS3.rcell h3
  clear d0 d1 d2 d3 d4 dz
  have HS3 := Lib.hid hS3
  have H3 := Lib.hid h3
  clear c0 c1 c3 c4 c5 hw HS HD hS3 h3
  go_wp2_with fail
  refine (e_ans W w3 q _ _ _ _ cs ss S3 F true 2 got HS3.out H3.out).mono ?_
  rintro e w4 ⟨rfl, S4, hS4, h4⟩
  go_wp2_with fail
  go_ret
  exact ⟨rfl, S4, by rw [hun]; exact hS4, h4⟩

end

end Go.Proofs.Ythifeaigdobonaa
