/- The reference's machine of the deque: a steal's lines. -/
import Derived.Test.YthifeaigdobonaaRft
import Derived.Deep.RegionHeld3
namespace Go.Proofs.Ythifeaigdobonaa
open Go.RowKit

section
variable (W w : World) (p : RSpot) (m : DM) (S F : Hp) (t : Nat) (x : Th) (c : ACall) (k : Nat)

set_option maxHeartbeats 1000000 in
set_option maxRecDepth 100000 in
theorem ref_steal_1 (R : RStep m t x c k) (hl : x.line = 1) (hS : RefAt p m S) (h : Holds W w (S + F)) : Calls Try.prog 99 #[rptr p, .int .i64 (t : Int)] w (RfPost W p (m.steal t x c) F (.tuple #[])) := by
  have htl : t < m.all.length := (List.getElem?_eq_some_iff.1 R.hx).1
  have hcl : k < m.calls.length := (List.getElem?_eq_some_iff.1 R.hc).1
  have z0 : (0 : Int) ≤ (t : Int) := by omega
  have z1 : (t : Int) < (m.all.length : Int) := by omega
  have z2 : (0 : Int) ≤ (k : Int) := by omega
  have z3 : (k : Int) < (m.calls.length : Int) := by omega
  have HL := Lib.hid hl
  have HX := Lib.hid R.hx
  have HC := Lib.hid R.hc
  have ek : x.call.toNat = k := by have := R.hk; omega
  have EK := Lib.hid ek
  clear ek
  obtain ⟨wa, wc, ca, cc, ta, tc, c0, c1, c2, c3, c4, c5, c6, c7, c8, e0, e1, e2, e3, e4, hbr, hga, hne, fz, fa⟩ := hS.facts h R.hx
  have f0 := fa (t * 5)
  have f1 := fa (t * 5 + 1)
  have f2 := fa (t * 5 + 2)
  have f3 := fa (t * 5 + 3)
  have f4 := fa (t * 5 + 4)
  have g6 := fz 6
  have g7 := fz 7
  have g8 := fz 8
  clear fz fa
  obtain ⟨g, rfl, co, carg⟩ := hS.arg h R.hc c4
  rw [R.hk] at e0
  rw [hl] at e1
  have HS := Lib.hid hS
  have HH := Lib.hid h
  clear hl hS h
  unfold rptr
  go_enter Try.func99, Try.ntmps99
  go_wp2_with fail
  refine (ref_load W _ p m S F t 0 (by omega) (by have := R.len; have := R.room; omega) R.ntr HS.out HH.out).mono ?_
  clear c0 c1 c2 c3 c4 c5 c6 c7 c8 e0 e1 e2 e3 e4 f0 f1 f2 f3 f4 g6 g7 g8 hbr hga hne
  clear co carg
  rintro e w1 ⟨rfl, S1, s1, h1⟩
  have SH1 := Lib.hid s1
  have HH1 := Lib.hid h1
  clear s1 h1
  obtain ⟨wa, wc, ca, cc, ta, tc, c0, c1, c2, c3, c4, c5, c6, c7, c8, e0, e1, e2, e3, e4, hbr, hga, hne, fz, fa⟩ := SH1.out.facts HH1.out HX.out
  have f0 := fa (t * 5)
  have f1 := fa (t * 5 + 1)
  have f2 := fa (t * 5 + 2)
  have f3 := fa (t * 5 + 3)
  have f4 := fa (t * 5 + 4)
  have g6 := fz 6
  have g7 := fz 7
  have g8 := fz 8
  clear fz fa
  try dsimp only [DM.setTh, DM.dload, DM.dstore, DM.dswap] at c1 c6 c7 c8 e0 e1 e2 e3 e4
  rw [HL.out] at e1
  rw [R.hk] at e0
  obtain ⟨Sz, sz, hz⟩ := SH1.out.two HH1.out HX.out 3 (.int .i64 (wd m.words 0)) { x with t := wd m.words 0 } (by decide) rfl 1 (.int .i64 2) { x with t := wd m.words 0, line := 2 } (by decide) (by first | rfl | simp [encTh])
  have SHz := Lib.hid sz
  have HHz := Lib.hid hz
  clear sz hz
  have Q : Hid (∃ S', RefAt p (m.steal t x c) S' ∧ Holds W ((w1.setCell ⟨p.ga, t * 5 + 3, none⟩ (.int .i64 (wd m.words 0))).setCell ⟨p.ga, t * 5 + 1, none⟩ (.int .i64 2)) (S' + F)) := by
    refine ⟨Sz, ?_, HHz.out⟩
    have e : m.steal t x c = ((m.dload t 0).setTh t { x with t := wd m.words 0, line := 2 }) := by
      have ek := EK.out
      unfold DM.steal
      rw [if_pos HL.out]
      try simp only [DM.fin, DM.point, DM.setTh, DM.dload, DM.dstore, DM.dswap, List.set_set, ek]
    rw [e]; exact SHz.out
  go_wp2_with fail
  first | (go_end0; exact ⟨rfl, Q.out⟩) | (refine bodyPost_ret (results_none rfl _ _ _) rfl ?_; exact ⟨rfl, Q.out⟩)

set_option maxHeartbeats 1000000 in
set_option maxRecDepth 100000 in
theorem ref_steal_2e (R : RStep m t x c k) (hl : x.line = 2) (hb : 0 ≤ x.t ∧ x.t ≤ 70000) (he : wd m.words 1 ≤ x.t) (hS : RefAt p m S) (h : Holds W w (S + F)) : Calls Try.prog 99 #[rptr p, .int .i64 (t : Int)] w (RfPost W p (m.steal t x c) F (.tuple #[])) := by
  have htl : t < m.all.length := (List.getElem?_eq_some_iff.1 R.hx).1
  have hcl : k < m.calls.length := (List.getElem?_eq_some_iff.1 R.hc).1
  have z0 : (0 : Int) ≤ (t : Int) := by omega
  have z1 : (t : Int) < (m.all.length : Int) := by omega
  have z2 : (0 : Int) ≤ (k : Int) := by omega
  have z3 : (k : Int) < (m.calls.length : Int) := by omega
  have HL := Lib.hid hl
  have HX := Lib.hid R.hx
  have HC := Lib.hid R.hc
  have ek : x.call.toNat = k := by have := R.hk; omega
  have EK := Lib.hid ek
  clear ek
  have HB := Lib.hid hb
  clear hb
  have hb1 := R.bot
  have HSUB := Lib.hid (IntWalk.i64_in (wd m.words 1 - x.t) (by have := HB.out; omega))
  clear hb1
  have HE := Lib.hid he
  have D1 : Hid (decide (wd m.words 1 ≤ x.t) = true) := decide_eq_true he
  have D2 : Hid (decide (wd m.words 1 - x.t ≤ 0) = true) := decide_eq_true (by omega)
  clear he
  obtain ⟨wa, wc, ca, cc, ta, tc, c0, c1, c2, c3, c4, c5, c6, c7, c8, e0, e1, e2, e3, e4, hbr, hga, hne, fz, fa⟩ := hS.facts h R.hx
  have f0 := fa (t * 5)
  have f1 := fa (t * 5 + 1)
  have f2 := fa (t * 5 + 2)
  have f3 := fa (t * 5 + 3)
  have f4 := fa (t * 5 + 4)
  have g6 := fz 6
  have g7 := fz 7
  have g8 := fz 8
  clear fz fa
  obtain ⟨g, rfl, co, carg⟩ := hS.arg h R.hc c4
  rw [R.hk] at e0
  rw [hl] at e1
  have HS := Lib.hid hS
  have HH := Lib.hid h
  clear hl hS h
  unfold rptr
  go_enter Try.func99, Try.ntmps99
  go_wp2_with fail
  refine (ref_load W _ p m S F t 1 (by omega) (by have := R.len; have := R.room; omega) R.ntr HS.out HH.out).mono ?_
  clear c0 c1 c2 c3 c4 c5 c6 c7 c8 e0 e1 e2 e3 e4 f0 f1 f2 f3 f4 g6 g7 g8 hbr hga hne
  clear co carg
  rintro e w1 ⟨rfl, S1, s1, h1⟩
  have SH1 := Lib.hid s1
  have HH1 := Lib.hid h1
  clear s1 h1
  obtain ⟨wa, wc, ca, cc, ta, tc, c0, c1, c2, c3, c4, c5, c6, c7, c8, e0, e1, e2, e3, e4, hbr, hga, hne, fz, fa⟩ := SH1.out.facts HH1.out HX.out
  have f0 := fa (t * 5)
  have f1 := fa (t * 5 + 1)
  have f2 := fa (t * 5 + 2)
  have f3 := fa (t * 5 + 3)
  have f4 := fa (t * 5 + 4)
  have g6 := fz 6
  have g7 := fz 7
  have g8 := fz 8
  clear fz fa
  try dsimp only [DM.setTh, DM.dload, DM.dstore, DM.dswap] at c1 c6 c7 c8 e0 e1 e2 e3 e4
  rw [HL.out] at e1
  rw [R.hk] at e0
  obtain ⟨S2, s2, h2⟩ := SH1.out.one HH1.out HX.out 2 (.int .i64 (wd m.words 1)) { x with b := wd m.words 1 } (by decide) (by first | rfl | simp [encTh])
  have SH2 := Lib.hid s2
  have HH2 := Lib.hid h2
  clear s2 h2
  have hx2 : ((m.dload t 1).setTh t { x with b := wd m.words 1 }).all[t]? = some { x with b := wd m.words 1 } := get_set HX.out _
  have HX2 := Lib.hid hx2
  clear hx2
  go_wp2_with fail
  generalize w1.setCell ⟨p.ga, t * 5 + 2, none⟩ (.int .i64 (wd m.words 1)) = v2 at *
  clear c0 c1 c2 c3 c4 c5 c6 c7 c8 e0 e1 e2 e3 e4 f0 f1 f2 f3 f4 g6 g7 g8 hbr hga hne
  obtain ⟨wa, wc, ca, cc, ta, tc, c0, c1, c2, c3, c4, c5, c6, c7, c8, e0, e1, e2, e3, e4, hbr, hga, hne, fz, fa⟩ := SH2.out.facts HH2.out HX2.out
  have f0 := fa (t * 5)
  have f1 := fa (t * 5 + 1)
  have f2 := fa (t * 5 + 2)
  have f3 := fa (t * 5 + 3)
  have f4 := fa (t * 5 + 4)
  have g6 := fz 6
  have g7 := fz 7
  have g8 := fz 8
  clear fz fa
  try dsimp only [DM.setTh, DM.dload, DM.dstore, DM.dswap] at c1 c6 c7 c8 e0 e1 e2 e3 e4
  rw [HL.out] at e1
  rw [R.hk] at e0
  have hsub := HSUB.out
  have d1 := D1.out
  have d2 := D2.out
  go_quiet (fail)
  clear hsub
  go_wp2_with fail
  refine (ref_point W _ p ((m.dload t 1).setTh t { x with b := wd m.words 1 }) S2 F t { x with b := wd m.words 1 } c k m.moves HX2.out R.hk HC.out (by first | exact R.hn | (show (m.all.set t _).length ≤ 16; rw [List.length_set]; exact R.hn)) (by first | exact R.hnc | (show (m.calls.set k _).length ≤ 65536; rw [List.length_set]; exact R.hnc) | (show ((m.calls.set k _).set k _).length ≤ 65536; rw [List.length_set, List.length_set]; exact R.hnc)) SH2.out (HH2.out.drewN nq)).mono ?_
  clear c0 c1 c2 c3 c4 c5 c6 c7 c8 e0 e1 e2 e3 e4 f0 f1 f2 f3 f4 g6 g7 g8 hbr hga hne
  rintro e w3 ⟨rfl, S3, s3, h3⟩
  have SH3 := Lib.hid s3
  have HH3 := Lib.hid h3
  clear s3 h3
  obtain ⟨wa, wc, ca, cc, ta, tc, c0, c1, c2, c3, c4, c5, c6, c7, c8, e0, e1, e2, e3, e4, hbr, hga, hne, fz, fa⟩ := SH3.out.facts HH3.out HX2.out
  have f0 := fa (t * 5)
  have f1 := fa (t * 5 + 1)
  have f2 := fa (t * 5 + 2)
  have f3 := fa (t * 5 + 3)
  have f4 := fa (t * 5 + 4)
  have g6 := fz 6
  have g7 := fz 7
  have g8 := fz 8
  clear fz fa
  try dsimp only [DM.setTh, DM.dload, DM.dstore, DM.dswap] at c1 c6 c7 c8 e0 e1 e2 e3 e4
  rw [HL.out] at e1
  rw [R.hk] at e0
  go_wp2_with fail
  refine (ref_end W _ p { ((m.dload t 1).setTh t { x with b := wd m.words 1 }) with calls := (((m.dload t 1).setTh t { x with b := wd m.words 1 })).calls.set k { c with point := m.moves } } S3 F t { x with b := wd m.words 1 } { c with point := m.moves } k 3 0 HX2.out R.hk (get_set HC.out _) (by first | exact R.hn | (show (m.all.set t _).length ≤ 16; rw [List.length_set]; exact R.hn)) (by first | exact R.hnc | (show (m.calls.set k _).length ≤ 65536; rw [List.length_set]; exact R.hnc) | (show ((m.calls.set k _).set k _).length ≤ 65536; rw [List.length_set, List.length_set]; exact R.hnc)) SH3.out HH3.out).mono ?_
  clear c0 c1 c2 c3 c4 c5 c6 c7 c8 e0 e1 e2 e3 e4 f0 f1 f2 f3 f4 g6 g7 g8 hbr hga hne
  rintro e w4 ⟨rfl, S4, s4, h4⟩
  have SH4 := Lib.hid s4
  have HH4 := Lib.hid h4
  clear s4 h4
  go_wp2_with fail
  have Q : Hid (∃ S', RefAt p (m.steal t x c) S' ∧ Holds W w4 (S' + F)) := by
    refine ⟨S4, ?_, HH4.out⟩
    have e : m.steal t x c = (DM.fin { ((m.dload t 1).setTh t { x with b := wd m.words 1 }) with calls := (((m.dload t 1).setTh t { x with b := wd m.words 1 })).calls.set k { c with point := m.moves } } t { x with b := wd m.words 1 } { c with point := m.moves } 3 0) := by
      have ek := EK.out
      unfold DM.steal
      rw [if_neg (by have := HL.out; omega), if_pos HL.out, if_pos HE.out]
      try simp only [DM.fin, DM.setTh, DM.dload, List.set_set, ek]
    rw [e]; exact SH4.out
  first | (go_end0; exact ⟨rfl, Q.out⟩) | (refine bodyPost_ret (results_none rfl _ _ _) rfl ?_; exact ⟨rfl, Q.out⟩)

set_option maxHeartbeats 1000000 in
set_option maxRecDepth 100000 in
theorem ref_steal_2n (R : RStep m t x c k) (hl : x.line = 2) (hb : 0 ≤ x.t ∧ x.t ≤ 70000) (he : ¬ wd m.words 1 ≤ x.t) (hS : RefAt p m S) (h : Holds W w (S + F)) : Calls Try.prog 99 #[rptr p, .int .i64 (t : Int)] w (RfPost W p (m.steal t x c) F (.tuple #[])) := by
  have htl : t < m.all.length := (List.getElem?_eq_some_iff.1 R.hx).1
  have hcl : k < m.calls.length := (List.getElem?_eq_some_iff.1 R.hc).1
  have z0 : (0 : Int) ≤ (t : Int) := by omega
  have z1 : (t : Int) < (m.all.length : Int) := by omega
  have z2 : (0 : Int) ≤ (k : Int) := by omega
  have z3 : (k : Int) < (m.calls.length : Int) := by omega
  have HL := Lib.hid hl
  have HX := Lib.hid R.hx
  have HC := Lib.hid R.hc
  have ek : x.call.toNat = k := by have := R.hk; omega
  have EK := Lib.hid ek
  clear ek
  have HB := Lib.hid hb
  clear hb
  have hb1 := R.bot
  have HSUB := Lib.hid (IntWalk.i64_in (wd m.words 1 - x.t) (by have := HB.out; omega))
  clear hb1
  have HE := Lib.hid he
  have D1 : Hid (decide (wd m.words 1 ≤ x.t) = false) := decide_eq_false he
  have D2 : Hid (decide (wd m.words 1 - x.t ≤ 0) = false) := decide_eq_false (by omega)
  clear he
  obtain ⟨wa, wc, ca, cc, ta, tc, c0, c1, c2, c3, c4, c5, c6, c7, c8, e0, e1, e2, e3, e4, hbr, hga, hne, fz, fa⟩ := hS.facts h R.hx
  have f0 := fa (t * 5)
  have f1 := fa (t * 5 + 1)
  have f2 := fa (t * 5 + 2)
  have f3 := fa (t * 5 + 3)
  have f4 := fa (t * 5 + 4)
  have g6 := fz 6
  have g7 := fz 7
  have g8 := fz 8
  clear fz fa
  obtain ⟨g, rfl, co, carg⟩ := hS.arg h R.hc c4
  rw [R.hk] at e0
  rw [hl] at e1
  have HS := Lib.hid hS
  have HH := Lib.hid h
  clear hl hS h
  unfold rptr
  go_enter Try.func99, Try.ntmps99
  go_wp2_with fail
  refine (ref_load W _ p m S F t 1 (by omega) (by have := R.len; have := R.room; omega) R.ntr HS.out HH.out).mono ?_
  clear c0 c1 c2 c3 c4 c5 c6 c7 c8 e0 e1 e2 e3 e4 f0 f1 f2 f3 f4 g6 g7 g8 hbr hga hne
  clear co carg
  rintro e w1 ⟨rfl, S1, s1, h1⟩
  have SH1 := Lib.hid s1
  have HH1 := Lib.hid h1
  clear s1 h1
  obtain ⟨wa, wc, ca, cc, ta, tc, c0, c1, c2, c3, c4, c5, c6, c7, c8, e0, e1, e2, e3, e4, hbr, hga, hne, fz, fa⟩ := SH1.out.facts HH1.out HX.out
  have f0 := fa (t * 5)
  have f1 := fa (t * 5 + 1)
  have f2 := fa (t * 5 + 2)
  have f3 := fa (t * 5 + 3)
  have f4 := fa (t * 5 + 4)
  have g6 := fz 6
  have g7 := fz 7
  have g8 := fz 8
  clear fz fa
  try dsimp only [DM.setTh, DM.dload, DM.dstore, DM.dswap] at c1 c6 c7 c8 e0 e1 e2 e3 e4
  rw [HL.out] at e1
  rw [R.hk] at e0
  obtain ⟨S2, s2, h2⟩ := SH1.out.one HH1.out HX.out 2 (.int .i64 (wd m.words 1)) { x with b := wd m.words 1 } (by decide) (by first | rfl | simp [encTh])
  have SH2 := Lib.hid s2
  have HH2 := Lib.hid h2
  clear s2 h2
  have hx2 : ((m.dload t 1).setTh t { x with b := wd m.words 1 }).all[t]? = some { x with b := wd m.words 1 } := get_set HX.out _
  have HX2 := Lib.hid hx2
  clear hx2
  go_wp2_with fail
  generalize w1.setCell ⟨p.ga, t * 5 + 2, none⟩ (.int .i64 (wd m.words 1)) = v2 at *
  clear c0 c1 c2 c3 c4 c5 c6 c7 c8 e0 e1 e2 e3 e4 f0 f1 f2 f3 f4 g6 g7 g8 hbr hga hne
  obtain ⟨wa, wc, ca, cc, ta, tc, c0, c1, c2, c3, c4, c5, c6, c7, c8, e0, e1, e2, e3, e4, hbr, hga, hne, fz, fa⟩ := SH2.out.facts HH2.out HX2.out
  have f0 := fa (t * 5)
  have f1 := fa (t * 5 + 1)
  have f2 := fa (t * 5 + 2)
  have f3 := fa (t * 5 + 3)
  have f4 := fa (t * 5 + 4)
  have g6 := fz 6
  have g7 := fz 7
  have g8 := fz 8
  clear fz fa
  try dsimp only [DM.setTh, DM.dload, DM.dstore, DM.dswap] at c1 c6 c7 c8 e0 e1 e2 e3 e4
  rw [HL.out] at e1
  rw [R.hk] at e0
  have hsub := HSUB.out
  have d1 := D1.out
  have d2 := D2.out
  go_quiet (fail)
  clear hsub
  obtain ⟨S3, s3, h3⟩ := SH2.out.one (HH2.out.drewN nq) HX2.out 1 (.int .i64 3) { x with b := wd m.words 1, line := 3 } (by decide) (by first | rfl | simp [encTh])
  have SH3 := Lib.hid s3
  have HH3 := Lib.hid h3
  clear s3 h3
  have hx3 : (((m.dload t 1).setTh t { x with b := wd m.words 1 }).setTh t { x with b := wd m.words 1, line := 3 }).all[t]? = some { x with b := wd m.words 1, line := 3 } := get_set HX2.out _
  have HX3 := Lib.hid hx3
  clear hx3
  have Q : Hid (∃ S', RefAt p (m.steal t x c) S' ∧ Holds W ((v2.drewN nq).setCell ⟨p.ga, t * 5 + 1, none⟩ (.int .i64 3)) (S' + F)) := by
    refine ⟨S3, ?_, HH3.out⟩
    have e : m.steal t x c = (((m.dload t 1).setTh t { x with b := wd m.words 1 }).setTh t { x with b := wd m.words 1, line := 3 }) := by
      have ek := EK.out
      unfold DM.steal
      rw [if_neg (by have := HL.out; omega), if_pos HL.out, if_neg (by have := HE.out; omega)]
      try simp only [DM.setTh, DM.dload, List.set_set]
    rw [e]; exact SH3.out
  go_wp2_with fail
  first | (go_end0; exact ⟨rfl, Q.out⟩) | (refine bodyPost_ret (results_none rfl _ _ _) rfl ?_; exact ⟨rfl, Q.out⟩)

set_option maxHeartbeats 1000000 in
set_option maxRecDepth 100000 in
theorem ref_steal_3 (R : RStep m t x c k) (hl : x.line = 3) (hb : 0 ≤ x.t ∧ x.t ≤ 70000) (hS : RefAt p m S) (h : Holds W w (S + F)) : Calls Try.prog 99 #[rptr p, .int .i64 (t : Int)] w (RfPost W p (m.steal t x c) F (.tuple #[])) := by
  have htl : t < m.all.length := (List.getElem?_eq_some_iff.1 R.hx).1
  have hcl : k < m.calls.length := (List.getElem?_eq_some_iff.1 R.hc).1
  have z0 : (0 : Int) ≤ (t : Int) := by omega
  have z1 : (t : Int) < (m.all.length : Int) := by omega
  have z2 : (0 : Int) ≤ (k : Int) := by omega
  have z3 : (k : Int) < (m.calls.length : Int) := by omega
  have HL := Lib.hid hl
  have HX := Lib.hid R.hx
  have HC := Lib.hid R.hc
  have ek : x.call.toNat = k := by have := R.hk; omega
  have EK := Lib.hid ek
  clear ek
  have HB := Lib.hid hb
  clear hb
  have hroom := R.room
  have q0 := Int.emod_nonneg (x.t) (show m.room ≠ 0 by omega)
  have q1 := Int.emod_lt_of_pos (x.t) (show 0 < m.room by omega)
  have HN : Hid (0 ≤ 2 + (x.t) % m.room ∧ 2 + (x.t) % m.room < (m.words.length : Int)) := ⟨by omega, by have := R.len; omega⟩
  have HMOD : Hid (Int.tmod (x.t) m.room = (x.t) % m.room) := Int.tmod_eq_emod_of_nonneg (by have := HB.out; omega)
  have HWR := Lib.hid (IntWalk.i64_in (2 + (x.t) % m.room) (by omega))
  have hr0 : 0 < m.room := by omega
  have hrn : ¬ m.room = 0 := by omega
  have q2 : (x.t) % m.room < 256 := by omega
  clear q1 hroom
  have b0 : 0 ≤ x.t := HB.out.1
  have b1 : x.t ≤ 70000 := HB.out.2
  obtain ⟨wa, wc, ca, cc, ta, tc, c0, c1, c2, c3, c4, c5, c6, c7, c8, e0, e1, e2, e3, e4, hbr, hga, hne, fz, fa⟩ := hS.facts h R.hx
  have f0 := fa (t * 5)
  have f1 := fa (t * 5 + 1)
  have f2 := fa (t * 5 + 2)
  have f3 := fa (t * 5 + 3)
  have f4 := fa (t * 5 + 4)
  have g6 := fz 6
  have g7 := fz 7
  have g8 := fz 8
  clear fz fa
  obtain ⟨g, rfl, co, carg⟩ := hS.arg h R.hc c4
  rw [R.hk] at e0
  rw [hl] at e1
  have HS := Lib.hid hS
  have HH := Lib.hid h
  clear hl hS h
  unfold rptr
  go_enter Try.func99, Try.ntmps99
  go_wp2_with fail

  have hmod := HMOD.out
  have hwr := HWR.out
  go_region_held3 (fun w' => w'.cell? ⟨p.br, 1, none⟩ = some (.int .i64 m.room) ∧ w'.cell? ⟨p.ga, t * 5 + 3, none⟩ = some (.int .i64 x.t)) (first | (go_keep; done) | (refine ⟨?_, ?_⟩ <;> (first | (go_keep; done) | (rw [World.cell?_setCell_other _ _ _ _ (by simp)]; assumption))))
    ((go_at_call 104; refine (ref_load W _ p m S F t (2 + x.t % m.room) HN.out.1 HN.out.2 R.ntr HS.out HH.out.drew).mono ?_; clear c0 c1 c2 c3 c4 c5 c6 c7 c8 e0 e1 e2 e3 e4 f0 f1 f2 f3 f4 g6 g7 g8 hbr hga hne co carg hmod; rintro e w1 ⟨rfl, S1, s1, h1⟩; obtain ⟨wa, wc, ca, cc, ta, tc, c0, c1, c2, c3, c4, c5, c6, c7, c8, e0, e1, e2, e3, e4, hbr, hga, hne, fz, fa⟩ := s1.facts h1 HX.out; have f0 := fa (t * 5); have f1 := fa (t * 5 + 1); have f2 := fa (t * 5 + 2); have f3 := fa (t * 5 + 3); have f4 := fa (t * 5 + 4); have g6 := fz 6; have g7 := fz 7; have g8 := fz 8; clear fz fa; dsimp only [DM.dload] at c1 c6 c7 c8; rw [HL.out] at e1; rw [R.hk] at e0; have SH1 := Lib.hid s1; have HH1 := Lib.hid h1; clear s1 h1))
  clear hwr
  obtain ⟨S2, s2, h2⟩ := SH1.out.one HH1.out HX.out 4 (.int .i64 (wd m.words (2 + x.t % m.room).toNat)) { x with v := (wd m.words (2 + x.t % m.room).toNat) } (by decide) (by first | rfl | simp [encTh])
  have SH2 := Lib.hid s2
  have HH2 := Lib.hid h2
  clear s2 h2
  have hx2 : ((m.dload t (2 + x.t % m.room)).setTh t { x with v := (wd m.words (2 + x.t % m.room).toNat) }).all[t]? = some { x with v := (wd m.words (2 + x.t % m.room).toNat) } := get_set HX.out _
  have HX2 := Lib.hid hx2
  clear hx2
  obtain ⟨S3, s3, h3⟩ := SH2.out.one HH2.out HX2.out 1 (.int .i64 4) { x with v := (wd m.words (2 + x.t % m.room).toNat), line := 4 } (by decide) (by first | rfl | simp [encTh])
  have SH3 := Lib.hid s3
  have HH3 := Lib.hid h3
  clear s3 h3
  have hx3 : (((m.dload t (2 + x.t % m.room)).setTh t { x with v := (wd m.words (2 + x.t % m.room).toNat) }).setTh t { x with v := (wd m.words (2 + x.t % m.room).toNat), line := 4 }).all[t]? = some { x with v := (wd m.words (2 + x.t % m.room).toNat), line := 4 } := get_set HX2.out _
  have HX3 := Lib.hid hx3
  clear hx3
  have Q : Hid (∃ S', RefAt p (m.steal t x c) S' ∧ Holds W ((w1.setCell ⟨p.ga, t * 5 + 4, none⟩ (.int .i64 (wd m.words (2 + x.t % m.room).toNat))).setCell ⟨p.ga, t * 5 + 1, none⟩ (.int .i64 4)) (S' + F)) := by
    refine ⟨S3, ?_, HH3.out⟩
    have e : m.steal t x c = (((m.dload t (2 + x.t % m.room)).setTh t { x with v := (wd m.words (2 + x.t % m.room).toNat) }).setTh t { x with v := (wd m.words (2 + x.t % m.room).toNat), line := 4 }) := by
      have ek := EK.out
      unfold DM.steal
      rw [if_neg (by have := HL.out; omega), if_neg (by have := HL.out; omega), if_pos HL.out]
      try simp only [DM.setTh, DM.dload, List.set_set]
    rw [e]; exact SH3.out
  go_wp2_with fail
  first | (go_end0; exact ⟨rfl, Q.out⟩) | (refine bodyPost_ret (results_none rfl _ _ _) rfl ?_; exact ⟨rfl, Q.out⟩)

set_option maxHeartbeats 1000000 in
set_option maxRecDepth 100000 in
theorem ref_steal_4down (R : RStep m t x c k) (hl : x.line = 4) (hb : 0 ≤ x.t ∧ x.t ≤ 70000) (he : wd m.words 0 = x.t) (hd : 0 ≤ m.down ∧ m.last = x.t) (hS : RefAt p m S) (h : Holds W w (S + F)) : Calls Try.prog 99 #[rptr p, .int .i64 (t : Int)] w (RfPost W p (m.steal t x c) F (.tuple #[])) := by
  have htl : t < m.all.length := (List.getElem?_eq_some_iff.1 R.hx).1
  have hcl : k < m.calls.length := (List.getElem?_eq_some_iff.1 R.hc).1
  have z0 : (0 : Int) ≤ (t : Int) := by omega
  have z1 : (t : Int) < (m.all.length : Int) := by omega
  have z2 : (0 : Int) ≤ (k : Int) := by omega
  have z3 : (k : Int) < (m.calls.length : Int) := by omega
  have HL := Lib.hid hl
  have HX := Lib.hid R.hx
  have HC := Lib.hid R.hc
  have ek : x.call.toNat = k := by have := R.hk; omega
  have EK := Lib.hid ek
  clear ek
  have HB := Lib.hid hb
  clear hb
  have HE := Lib.hid he
  have HD := Lib.hid hd
  have D1 : Hid (decide (0 ≤ m.down) = true) := decide_eq_true hd.1
  have D2 : Hid ((m.last == x.t) = true) := beq_iff_eq.2 hd.2
  clear he hd
  obtain ⟨wa, wc, ca, cc, ta, tc, c0, c1, c2, c3, c4, c5, c6, c7, c8, e0, e1, e2, e3, e4, hbr, hga, hne, fz, fa⟩ := hS.facts h R.hx
  have f0 := fa (t * 5)
  have f1 := fa (t * 5 + 1)
  have f2 := fa (t * 5 + 2)
  have f3 := fa (t * 5 + 3)
  have f4 := fa (t * 5 + 4)
  have g6 := fz 6
  have g7 := fz 7
  have g8 := fz 8
  clear fz fa
  obtain ⟨g, rfl, co, carg⟩ := hS.arg h R.hc c4
  rw [R.hk] at e0
  rw [hl] at e1
  have HS := Lib.hid hS
  have HH := Lib.hid h
  clear hl hS h
  unfold rptr
  go_enter Try.func99, Try.ntmps99
  go_wp2_with fail
  refine (ref_swap_yes W _ p m S F t x.t (by have := HB.out; omega) (by have := HB.out; omega) (by have := R.len; have := R.room; omega) HE.out R.ntr HS.out HH.out).mono ?_
  clear c0 c1 c2 c3 c4 c5 c6 c7 c8 e0 e1 e2 e3 e4 f0 f1 f2 f3 f4 g6 g7 g8 hbr hga hne
  clear co carg
  rintro e w1 ⟨rfl, S1, s1, h1⟩
  have SH1 := Lib.hid s1
  have HH1 := Lib.hid h1
  clear s1 h1
  obtain ⟨wa, wc, ca, cc, ta, tc, c0, c1, c2, c3, c4, c5, c6, c7, c8, e0, e1, e2, e3, e4, hbr, hga, hne, fz, fa⟩ := SH1.out.facts HH1.out HX.out
  have f0 := fa (t * 5)
  have f1 := fa (t * 5 + 1)
  have f2 := fa (t * 5 + 2)
  have f3 := fa (t * 5 + 3)
  have f4 := fa (t * 5 + 4)
  have g6 := fz 6
  have g7 := fz 7
  have g8 := fz 8
  clear fz fa
  try dsimp only [DM.setTh, DM.dload, DM.dstore, DM.dswap] at c1 c6 c7 c8 e0 e1 e2 e3 e4
  rw [HL.out] at e1
  rw [R.hk] at e0
  go_wp2_with fail
  refine (ref_point W _ p (m.dswap t x.t) S1 F t x c k m.moves HX.out R.hk HC.out (by first | exact R.hn | (show (m.all.set t _).length ≤ 16; rw [List.length_set]; exact R.hn)) (by first | exact R.hnc | (show (m.calls.set k _).length ≤ 65536; rw [List.length_set]; exact R.hnc) | (show ((m.calls.set k _).set k _).length ≤ 65536; rw [List.length_set, List.length_set]; exact R.hnc)) SH1.out HH1.out).mono ?_
  clear c0 c1 c2 c3 c4 c5 c6 c7 c8 e0 e1 e2 e3 e4 f0 f1 f2 f3 f4 g6 g7 g8 hbr hga hne
  rintro e w2 ⟨rfl, S2, s2, h2⟩
  have SH2 := Lib.hid s2
  have HH2 := Lib.hid h2
  clear s2 h2
  obtain ⟨wa, wc, ca, cc, ta, tc, c0, c1, c2, c3, c4, c5, c6, c7, c8, e0, e1, e2, e3, e4, hbr, hga, hne, fz, fa⟩ := SH2.out.facts HH2.out HX.out
  have f0 := fa (t * 5)
  have f1 := fa (t * 5 + 1)
  have f2 := fa (t * 5 + 2)
  have f3 := fa (t * 5 + 3)
  have f4 := fa (t * 5 + 4)
  have g6 := fz 6
  have g7 := fz 7
  have g8 := fz 8
  clear fz fa
  try dsimp only [DM.setTh, DM.dload, DM.dstore, DM.dswap] at c1 c6 c7 c8 e0 e1 e2 e3 e4
  rw [HL.out] at e1
  rw [R.hk] at e0
  go_wp2_with fail
  have d1 := D1.out
  have d2 := D2.out
  go_quiet (fail)
  go_wp2_with fail
  refine (ref_point W _ p { (m.dswap t x.t) with calls := ((m.dswap t x.t)).calls.set k { c with point := m.moves } } S2 F t x { c with point := m.moves } k m.down HX.out R.hk (get_set HC.out _) (by first | exact R.hn | (show (m.all.set t _).length ≤ 16; rw [List.length_set]; exact R.hn)) (by first | exact R.hnc | (show (m.calls.set k _).length ≤ 65536; rw [List.length_set]; exact R.hnc) | (show ((m.calls.set k _).set k _).length ≤ 65536; rw [List.length_set, List.length_set]; exact R.hnc)) SH2.out (HH2.out.drewN nq)).mono ?_
  clear c0 c1 c2 c3 c4 c5 c6 c7 c8 e0 e1 e2 e3 e4 f0 f1 f2 f3 f4 g6 g7 g8 hbr hga hne
  rintro e w3 ⟨rfl, S3, s3, h3⟩
  have SH3 := Lib.hid s3
  have HH3 := Lib.hid h3
  clear s3 h3
  obtain ⟨wa, wc, ca, cc, ta, tc, c0, c1, c2, c3, c4, c5, c6, c7, c8, e0, e1, e2, e3, e4, hbr, hga, hne, fz, fa⟩ := SH3.out.facts HH3.out HX.out
  have f0 := fa (t * 5)
  have f1 := fa (t * 5 + 1)
  have f2 := fa (t * 5 + 2)
  have f3 := fa (t * 5 + 3)
  have f4 := fa (t * 5 + 4)
  have g6 := fz 6
  have g7 := fz 7
  have g8 := fz 8
  clear fz fa
  try dsimp only [DM.setTh, DM.dload, DM.dstore, DM.dswap] at c1 c6 c7 c8 e0 e1 e2 e3 e4
  rw [HL.out] at e1
  rw [R.hk] at e0
  go_wp2_with fail
  refine (ref_end W _ p { { (m.dswap t x.t) with calls := ((m.dswap t x.t)).calls.set k { c with point := m.moves } } with calls := ({ (m.dswap t x.t) with calls := ((m.dswap t x.t)).calls.set k { c with point := m.moves } }).calls.set k { { c with point := m.moves } with point := m.down } } S3 F t x { { c with point := m.moves } with point := m.down } k 2 x.v HX.out R.hk (get_set (get_set HC.out _) _) (by first | exact R.hn | (show (m.all.set t _).length ≤ 16; rw [List.length_set]; exact R.hn)) (by first | exact R.hnc | (show (m.calls.set k _).length ≤ 65536; rw [List.length_set]; exact R.hnc) | (show ((m.calls.set k _).set k _).length ≤ 65536; rw [List.length_set, List.length_set]; exact R.hnc)) SH3.out HH3.out).mono ?_
  clear c0 c1 c2 c3 c4 c5 c6 c7 c8 e0 e1 e2 e3 e4 f0 f1 f2 f3 f4 g6 g7 g8 hbr hga hne
  rintro e w4 ⟨rfl, S4, s4, h4⟩
  have SH4 := Lib.hid s4
  have HH4 := Lib.hid h4
  clear s4 h4
  go_wp2_with fail
  have Q : Hid (∃ S', RefAt p (m.steal t x c) S' ∧ Holds W w4 (S' + F)) := by
    refine ⟨S4, ?_, HH4.out⟩
    have e : m.steal t x c = (DM.fin { { (m.dswap t x.t) with calls := ((m.dswap t x.t)).calls.set k { c with point := m.moves } } with calls := ({ (m.dswap t x.t) with calls := ((m.dswap t x.t)).calls.set k { c with point := m.moves } }).calls.set k { { c with point := m.moves } with point := m.down } } t x { { c with point := m.moves } with point := m.down } 2 x.v) := by
      have ek := EK.out
      unfold DM.steal
      rw [if_neg (by have := HL.out; omega), if_neg (by have := HL.out; omega), if_neg (by have := HL.out; omega), if_pos HE.out, if_pos HD.out]
      try simp only [DM.fin, DM.dswap, List.set_set, ek]
    rw [e]; exact SH4.out
  first | (go_end0; exact ⟨rfl, Q.out⟩) | (refine bodyPost_ret (results_none rfl _ _ _) rfl ?_; exact ⟨rfl, Q.out⟩)

set_option maxHeartbeats 1000000 in
set_option maxRecDepth 100000 in
theorem ref_steal_4other (R : RStep m t x c k) (hl : x.line = 4) (hb : 0 ≤ x.t ∧ x.t ≤ 70000) (he : wd m.words 0 = x.t) (hd : 0 ≤ m.down ∧ m.last ≠ x.t) (hS : RefAt p m S) (h : Holds W w (S + F)) : Calls Try.prog 99 #[rptr p, .int .i64 (t : Int)] w (RfPost W p (m.steal t x c) F (.tuple #[])) := by
  have htl : t < m.all.length := (List.getElem?_eq_some_iff.1 R.hx).1
  have hcl : k < m.calls.length := (List.getElem?_eq_some_iff.1 R.hc).1
  have z0 : (0 : Int) ≤ (t : Int) := by omega
  have z1 : (t : Int) < (m.all.length : Int) := by omega
  have z2 : (0 : Int) ≤ (k : Int) := by omega
  have z3 : (k : Int) < (m.calls.length : Int) := by omega
  have HL := Lib.hid hl
  have HX := Lib.hid R.hx
  have HC := Lib.hid R.hc
  have ek : x.call.toNat = k := by have := R.hk; omega
  have EK := Lib.hid ek
  clear ek
  have HB := Lib.hid hb
  clear hb
  have HE := Lib.hid he
  have HD := Lib.hid hd
  have D1 : Hid (decide (0 ≤ m.down) = true) := decide_eq_true hd.1
  have D2 : Hid ((m.last == x.t) = false) := beq_eq_false_iff_ne.2 hd.2
  clear he hd
  obtain ⟨wa, wc, ca, cc, ta, tc, c0, c1, c2, c3, c4, c5, c6, c7, c8, e0, e1, e2, e3, e4, hbr, hga, hne, fz, fa⟩ := hS.facts h R.hx
  have f0 := fa (t * 5)
  have f1 := fa (t * 5 + 1)
  have f2 := fa (t * 5 + 2)
  have f3 := fa (t * 5 + 3)
  have f4 := fa (t * 5 + 4)
  have g6 := fz 6
  have g7 := fz 7
  have g8 := fz 8
  clear fz fa
  obtain ⟨g, rfl, co, carg⟩ := hS.arg h R.hc c4
  rw [R.hk] at e0
  rw [hl] at e1
  have HS := Lib.hid hS
  have HH := Lib.hid h
  clear hl hS h
  unfold rptr
  go_enter Try.func99, Try.ntmps99
  go_wp2_with fail
  refine (ref_swap_yes W _ p m S F t x.t (by have := HB.out; omega) (by have := HB.out; omega) (by have := R.len; have := R.room; omega) HE.out R.ntr HS.out HH.out).mono ?_
  clear c0 c1 c2 c3 c4 c5 c6 c7 c8 e0 e1 e2 e3 e4 f0 f1 f2 f3 f4 g6 g7 g8 hbr hga hne
  clear co carg
  rintro e w1 ⟨rfl, S1, s1, h1⟩
  have SH1 := Lib.hid s1
  have HH1 := Lib.hid h1
  clear s1 h1
  obtain ⟨wa, wc, ca, cc, ta, tc, c0, c1, c2, c3, c4, c5, c6, c7, c8, e0, e1, e2, e3, e4, hbr, hga, hne, fz, fa⟩ := SH1.out.facts HH1.out HX.out
  have f0 := fa (t * 5)
  have f1 := fa (t * 5 + 1)
  have f2 := fa (t * 5 + 2)
  have f3 := fa (t * 5 + 3)
  have f4 := fa (t * 5 + 4)
  have g6 := fz 6
  have g7 := fz 7
  have g8 := fz 8
  clear fz fa
  try dsimp only [DM.setTh, DM.dload, DM.dstore, DM.dswap] at c1 c6 c7 c8 e0 e1 e2 e3 e4
  rw [HL.out] at e1
  rw [R.hk] at e0
  go_wp2_with fail
  refine (ref_point W _ p (m.dswap t x.t) S1 F t x c k m.moves HX.out R.hk HC.out (by first | exact R.hn | (show (m.all.set t _).length ≤ 16; rw [List.length_set]; exact R.hn)) (by first | exact R.hnc | (show (m.calls.set k _).length ≤ 65536; rw [List.length_set]; exact R.hnc) | (show ((m.calls.set k _).set k _).length ≤ 65536; rw [List.length_set, List.length_set]; exact R.hnc)) SH1.out HH1.out).mono ?_
  clear c0 c1 c2 c3 c4 c5 c6 c7 c8 e0 e1 e2 e3 e4 f0 f1 f2 f3 f4 g6 g7 g8 hbr hga hne
  rintro e w2 ⟨rfl, S2, s2, h2⟩
  have SH2 := Lib.hid s2
  have HH2 := Lib.hid h2
  clear s2 h2
  obtain ⟨wa, wc, ca, cc, ta, tc, c0, c1, c2, c3, c4, c5, c6, c7, c8, e0, e1, e2, e3, e4, hbr, hga, hne, fz, fa⟩ := SH2.out.facts HH2.out HX.out
  have f0 := fa (t * 5)
  have f1 := fa (t * 5 + 1)
  have f2 := fa (t * 5 + 2)
  have f3 := fa (t * 5 + 3)
  have f4 := fa (t * 5 + 4)
  have g6 := fz 6
  have g7 := fz 7
  have g8 := fz 8
  clear fz fa
  try dsimp only [DM.setTh, DM.dload, DM.dstore, DM.dswap] at c1 c6 c7 c8 e0 e1 e2 e3 e4
  rw [HL.out] at e1
  rw [R.hk] at e0
  go_wp2_with fail
  have d1 := D1.out
  have d2 := D2.out
  go_quiet (fail)
  go_wp2_with fail
  refine (ref_end W _ p { (m.dswap t x.t) with calls := ((m.dswap t x.t)).calls.set k { c with point := m.moves } } S2 F t x { c with point := m.moves } k 2 x.v HX.out R.hk (get_set HC.out _) (by first | exact R.hn | (show (m.all.set t _).length ≤ 16; rw [List.length_set]; exact R.hn)) (by first | exact R.hnc | (show (m.calls.set k _).length ≤ 65536; rw [List.length_set]; exact R.hnc) | (show ((m.calls.set k _).set k _).length ≤ 65536; rw [List.length_set, List.length_set]; exact R.hnc)) SH2.out (HH2.out.drewN nq)).mono ?_
  clear c0 c1 c2 c3 c4 c5 c6 c7 c8 e0 e1 e2 e3 e4 f0 f1 f2 f3 f4 g6 g7 g8 hbr hga hne
  rintro e w3 ⟨rfl, S3, s3, h3⟩
  have SH3 := Lib.hid s3
  have HH3 := Lib.hid h3
  clear s3 h3
  go_wp2_with fail
  have Q : Hid (∃ S', RefAt p (m.steal t x c) S' ∧ Holds W w3 (S' + F)) := by
    refine ⟨S3, ?_, HH3.out⟩
    have e : m.steal t x c = (DM.fin { (m.dswap t x.t) with calls := ((m.dswap t x.t)).calls.set k { c with point := m.moves } } t x { c with point := m.moves } 2 x.v) := by
      have ek := EK.out
      unfold DM.steal
      rw [if_neg (by have := HL.out; omega), if_neg (by have := HL.out; omega), if_neg (by have := HL.out; omega), if_pos HE.out, if_neg (fun h => HD.out.2 h.2)]
      try simp only [DM.fin, DM.dswap, List.set_set, ek]
    rw [e]; exact SH3.out
  first | (go_end0; exact ⟨rfl, Q.out⟩) | (refine bodyPost_ret (results_none rfl _ _ _) rfl ?_; exact ⟨rfl, Q.out⟩)

set_option maxHeartbeats 1000000 in
set_option maxRecDepth 100000 in
theorem ref_steal_4none (R : RStep m t x c k) (hl : x.line = 4) (hb : 0 ≤ x.t ∧ x.t ≤ 70000) (he : wd m.words 0 = x.t) (hd : m.down < 0) (hS : RefAt p m S) (h : Holds W w (S + F)) : Calls Try.prog 99 #[rptr p, .int .i64 (t : Int)] w (RfPost W p (m.steal t x c) F (.tuple #[])) := by
  have htl : t < m.all.length := (List.getElem?_eq_some_iff.1 R.hx).1
  have hcl : k < m.calls.length := (List.getElem?_eq_some_iff.1 R.hc).1
  have z0 : (0 : Int) ≤ (t : Int) := by omega
  have z1 : (t : Int) < (m.all.length : Int) := by omega
  have z2 : (0 : Int) ≤ (k : Int) := by omega
  have z3 : (k : Int) < (m.calls.length : Int) := by omega
  have HL := Lib.hid hl
  have HX := Lib.hid R.hx
  have HC := Lib.hid R.hc
  have ek : x.call.toNat = k := by have := R.hk; omega
  have EK := Lib.hid ek
  clear ek
  have HB := Lib.hid hb
  clear hb
  have HE := Lib.hid he
  have HD := Lib.hid hd
  have D1 : Hid (decide (0 ≤ m.down) = false) := decide_eq_false (by omega)
  clear he hd
  obtain ⟨wa, wc, ca, cc, ta, tc, c0, c1, c2, c3, c4, c5, c6, c7, c8, e0, e1, e2, e3, e4, hbr, hga, hne, fz, fa⟩ := hS.facts h R.hx
  have f0 := fa (t * 5)
  have f1 := fa (t * 5 + 1)
  have f2 := fa (t * 5 + 2)
  have f3 := fa (t * 5 + 3)
  have f4 := fa (t * 5 + 4)
  have g6 := fz 6
  have g7 := fz 7
  have g8 := fz 8
  clear fz fa
  obtain ⟨g, rfl, co, carg⟩ := hS.arg h R.hc c4
  rw [R.hk] at e0
  rw [hl] at e1
  have HS := Lib.hid hS
  have HH := Lib.hid h
  clear hl hS h
  unfold rptr
  go_enter Try.func99, Try.ntmps99
  go_wp2_with fail
  refine (ref_swap_yes W _ p m S F t x.t (by have := HB.out; omega) (by have := HB.out; omega) (by have := R.len; have := R.room; omega) HE.out R.ntr HS.out HH.out).mono ?_
  clear c0 c1 c2 c3 c4 c5 c6 c7 c8 e0 e1 e2 e3 e4 f0 f1 f2 f3 f4 g6 g7 g8 hbr hga hne
  clear co carg
  rintro e w1 ⟨rfl, S1, s1, h1⟩
  have SH1 := Lib.hid s1
  have HH1 := Lib.hid h1
  clear s1 h1
  obtain ⟨wa, wc, ca, cc, ta, tc, c0, c1, c2, c3, c4, c5, c6, c7, c8, e0, e1, e2, e3, e4, hbr, hga, hne, fz, fa⟩ := SH1.out.facts HH1.out HX.out
  have f0 := fa (t * 5)
  have f1 := fa (t * 5 + 1)
  have f2 := fa (t * 5 + 2)
  have f3 := fa (t * 5 + 3)
  have f4 := fa (t * 5 + 4)
  have g6 := fz 6
  have g7 := fz 7
  have g8 := fz 8
  clear fz fa
  try dsimp only [DM.setTh, DM.dload, DM.dstore, DM.dswap] at c1 c6 c7 c8 e0 e1 e2 e3 e4
  rw [HL.out] at e1
  rw [R.hk] at e0
  go_wp2_with fail
  refine (ref_point W _ p (m.dswap t x.t) S1 F t x c k m.moves HX.out R.hk HC.out (by first | exact R.hn | (show (m.all.set t _).length ≤ 16; rw [List.length_set]; exact R.hn)) (by first | exact R.hnc | (show (m.calls.set k _).length ≤ 65536; rw [List.length_set]; exact R.hnc) | (show ((m.calls.set k _).set k _).length ≤ 65536; rw [List.length_set, List.length_set]; exact R.hnc)) SH1.out HH1.out).mono ?_
  clear c0 c1 c2 c3 c4 c5 c6 c7 c8 e0 e1 e2 e3 e4 f0 f1 f2 f3 f4 g6 g7 g8 hbr hga hne
  rintro e w2 ⟨rfl, S2, s2, h2⟩
  have SH2 := Lib.hid s2
  have HH2 := Lib.hid h2
  clear s2 h2
  obtain ⟨wa, wc, ca, cc, ta, tc, c0, c1, c2, c3, c4, c5, c6, c7, c8, e0, e1, e2, e3, e4, hbr, hga, hne, fz, fa⟩ := SH2.out.facts HH2.out HX.out
  have f0 := fa (t * 5)
  have f1 := fa (t * 5 + 1)
  have f2 := fa (t * 5 + 2)
  have f3 := fa (t * 5 + 3)
  have f4 := fa (t * 5 + 4)
  have g6 := fz 6
  have g7 := fz 7
  have g8 := fz 8
  clear fz fa
  try dsimp only [DM.setTh, DM.dload, DM.dstore, DM.dswap] at c1 c6 c7 c8 e0 e1 e2 e3 e4
  rw [HL.out] at e1
  rw [R.hk] at e0
  go_wp2_with fail
  have d1 := D1.out
  go_quiet (fail)
  go_wp2_with fail
  refine (ref_end W _ p { (m.dswap t x.t) with calls := ((m.dswap t x.t)).calls.set k { c with point := m.moves } } S2 F t x { c with point := m.moves } k 2 x.v HX.out R.hk (get_set HC.out _) (by first | exact R.hn | (show (m.all.set t _).length ≤ 16; rw [List.length_set]; exact R.hn)) (by first | exact R.hnc | (show (m.calls.set k _).length ≤ 65536; rw [List.length_set]; exact R.hnc) | (show ((m.calls.set k _).set k _).length ≤ 65536; rw [List.length_set, List.length_set]; exact R.hnc)) SH2.out (HH2.out.drewN nq)).mono ?_
  clear c0 c1 c2 c3 c4 c5 c6 c7 c8 e0 e1 e2 e3 e4 f0 f1 f2 f3 f4 g6 g7 g8 hbr hga hne
  rintro e w3 ⟨rfl, S3, s3, h3⟩
  have SH3 := Lib.hid s3
  have HH3 := Lib.hid h3
  clear s3 h3
  go_wp2_with fail
  have Q : Hid (∃ S', RefAt p (m.steal t x c) S' ∧ Holds W w3 (S' + F)) := by
    refine ⟨S3, ?_, HH3.out⟩
    have e : m.steal t x c = (DM.fin { (m.dswap t x.t) with calls := ((m.dswap t x.t)).calls.set k { c with point := m.moves } } t x { c with point := m.moves } 2 x.v) := by
      have ek := EK.out
      unfold DM.steal
      rw [if_neg (by have := HL.out; omega), if_neg (by have := HL.out; omega), if_neg (by have := HL.out; omega), if_pos HE.out, if_neg (fun h => by have := HD.out; omega)]
      try simp only [DM.fin, DM.dswap, List.set_set, ek]
    rw [e]; exact SH3.out
  first | (go_end0; exact ⟨rfl, Q.out⟩) | (refine bodyPost_ret (results_none rfl _ _ _) rfl ?_; exact ⟨rfl, Q.out⟩)

set_option maxHeartbeats 1000000 in
set_option maxRecDepth 100000 in
theorem ref_steal_4l (R : RStep m t x c k) (hl : x.line = 4) (hb : 0 ≤ x.t ∧ x.t ≤ 70000) (he : wd m.words 0 ≠ x.t) (hS : RefAt p m S) (h : Holds W w (S + F)) : Calls Try.prog 99 #[rptr p, .int .i64 (t : Int)] w (RfPost W p (m.steal t x c) F (.tuple #[])) := by
  have htl : t < m.all.length := (List.getElem?_eq_some_iff.1 R.hx).1
  have hcl : k < m.calls.length := (List.getElem?_eq_some_iff.1 R.hc).1
  have z0 : (0 : Int) ≤ (t : Int) := by omega
  have z1 : (t : Int) < (m.all.length : Int) := by omega
  have z2 : (0 : Int) ≤ (k : Int) := by omega
  have z3 : (k : Int) < (m.calls.length : Int) := by omega
  have HL := Lib.hid hl
  have HX := Lib.hid R.hx
  have HC := Lib.hid R.hc
  have ek : x.call.toNat = k := by have := R.hk; omega
  have EK := Lib.hid ek
  clear ek
  have HB := Lib.hid hb
  clear hb
  have HE := Lib.hid he
  clear he
  obtain ⟨wa, wc, ca, cc, ta, tc, c0, c1, c2, c3, c4, c5, c6, c7, c8, e0, e1, e2, e3, e4, hbr, hga, hne, fz, fa⟩ := hS.facts h R.hx
  have f0 := fa (t * 5)
  have f1 := fa (t * 5 + 1)
  have f2 := fa (t * 5 + 2)
  have f3 := fa (t * 5 + 3)
  have f4 := fa (t * 5 + 4)
  have g6 := fz 6
  have g7 := fz 7
  have g8 := fz 8
  clear fz fa
  obtain ⟨g, rfl, co, carg⟩ := hS.arg h R.hc c4
  rw [R.hk] at e0
  rw [hl] at e1
  have HS := Lib.hid hS
  have HH := Lib.hid h
  clear hl hS h
  unfold rptr
  go_enter Try.func99, Try.ntmps99
  go_wp2_with fail
  refine (ref_swap_no W _ p m S F t x.t (by have := HB.out; omega) (by have := HB.out; omega) (by have := R.len; have := R.room; omega) HE.out R.ntr HS.out HH.out).mono ?_
  clear c0 c1 c2 c3 c4 c5 c6 c7 c8 e0 e1 e2 e3 e4 f0 f1 f2 f3 f4 g6 g7 g8 hbr hga hne
  clear co carg
  rintro e w1 ⟨rfl, S1, s1, h1⟩
  have SH1 := Lib.hid s1
  have HH1 := Lib.hid h1
  clear s1 h1
  obtain ⟨wa, wc, ca, cc, ta, tc, c0, c1, c2, c3, c4, c5, c6, c7, c8, e0, e1, e2, e3, e4, hbr, hga, hne, fz, fa⟩ := SH1.out.facts HH1.out HX.out
  have f0 := fa (t * 5)
  have f1 := fa (t * 5 + 1)
  have f2 := fa (t * 5 + 2)
  have f3 := fa (t * 5 + 3)
  have f4 := fa (t * 5 + 4)
  have g6 := fz 6
  have g7 := fz 7
  have g8 := fz 8
  clear fz fa
  try dsimp only [DM.setTh, DM.dload, DM.dstore, DM.dswap] at c1 c6 c7 c8 e0 e1 e2 e3 e4
  rw [HL.out] at e1
  rw [R.hk] at e0
  obtain ⟨S2, s2, h2⟩ := SH1.out.one HH1.out HX.out 1 (.int .i64 1) { x with line := 1 } (by decide) (by first | rfl | simp [encTh])
  have SH2 := Lib.hid s2
  have HH2 := Lib.hid h2
  clear s2 h2
  have hx2 : ((m.dswap t x.t).setTh t { x with line := 1 }).all[t]? = some { x with line := 1 } := get_set HX.out _
  have HX2 := Lib.hid hx2
  clear hx2
  have Q : Hid (∃ S', RefAt p (m.steal t x c) S' ∧ Holds W (w1.setCell ⟨p.ga, t * 5 + 1, none⟩ (.int .i64 1)) (S' + F)) := by
    refine ⟨S2, ?_, HH2.out⟩
    have e : m.steal t x c = ((m.dswap t x.t).setTh t { x with line := 1 }) := by
      have ek := EK.out
      unfold DM.steal
      rw [if_neg (by have := HL.out; omega), if_neg (by have := HL.out; omega), if_neg (by have := HL.out; omega), if_neg HE.out]
      try simp only [DM.fin, DM.point, DM.setTh, DM.dload, DM.dstore, DM.dswap, List.set_set, ek]
    rw [e]; exact SH2.out
  go_wp2_with fail
  first | (go_end0; exact ⟨rfl, Q.out⟩) | (refine bodyPost_ret (results_none rfl _ _ _) rfl ?_; exact ⟨rfl, Q.out⟩)

end

end Go.Proofs.Ythifeaigdobonaa
