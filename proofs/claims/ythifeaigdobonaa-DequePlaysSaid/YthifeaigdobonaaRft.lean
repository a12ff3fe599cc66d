/- The reference's machine of the deque: a take's lines. The reference's machine of the deque: a take's fifth line. -/
import Derived.Test.YthifeaigdobonaaRfp
import Derived.Deep.RegionHeld3
namespace Go.Proofs.Ythifeaigdobonaa
open Go.RowKit

/-- A number of the machine itself turned. -/
theorem RefAt.setDown {W w : World} {p : RSpot} {m : DM} {S F : Hp} (hS : RefAt p m S) (h : Holds W w (S + F)) (v : Int) : ∃ S', RefAt p { m with down := v } S' ∧ Holds W (w.setCell ⟨p.br, 7, none⟩ (.int .i64 v)) (S' + F) := by
  obtain ⟨wv, cv, tv, Sw, Sc, St, q1, q2, q3, rfl⟩ := hS
  have h1 := h.of_eq (Hp.add_assoc _ _ _)
  unfold refO at h1
  exact ⟨_, ⟨wv, cv, tv, Sw, Sc, St, q1, q2, q3, rfl⟩, (h1.set 7 (.int .i64 v)).of_eq (by unfold refO; simp only [List.setIfInBounds_toArray, List.set_cons_zero, List.set_cons_succ]; ac_rfl)⟩
theorem RefAt.setLast {W w : World} {p : RSpot} {m : DM} {S F : Hp} (hS : RefAt p m S) (h : Holds W w (S + F)) (v : Int) : ∃ S', RefAt p { m with last := v } S' ∧ Holds W (w.setCell ⟨p.br, 8, none⟩ (.int .i64 v)) (S' + F) := by
  obtain ⟨wv, cv, tv, Sw, Sc, St, q1, q2, q3, rfl⟩ := hS
  have h1 := h.of_eq (Hp.add_assoc _ _ _)
  unfold refO at h1
  exact ⟨_, ⟨wv, cv, tv, Sw, Sc, St, q1, q2, q3, rfl⟩, (h1.set 8 (.int .i64 v)).of_eq (by unfold refO; simp only [List.setIfInBounds_toArray, List.set_cons_zero, List.set_cons_succ]; ac_rfl)⟩

section
variable (W w : World) (p : RSpot) (m : DM) (S F : Hp) (t : Nat) (x : Th) (c : ACall) (k : Nat)

set_option maxHeartbeats 1000000 in
set_option maxRecDepth 100000 in
theorem ref_take_1 (R : RStep m t x c k) (hl : x.line = 1) (hS : RefAt p m S) (h : Holds W w (S + F)) : Calls Try.prog 98 #[rptr p, .int .i64 (t : Int)] w (RfPost W p (m.take t x c) F (.tuple #[])) := by
  have htl : t < m.all.length := (List.getElem?_eq_some_iff.1 R.hx).1
  have hcl : k < m.calls.length := (List.getElem?_eq_some_iff.1 R.hc).1
  have z0 : (0 : Int) ≤ (t : Int) := by omega
  have z1 : (t : Int) < (m.all.length : Int) := by omega
  have z2 : (0 : Int) ≤ (k : Int) := by omega
  have z3 : (k : Int) < (m.calls.length : Int) := by omega
  have HL := Lib.hid hl
  have HX := Lib.hid R.hx
  have HC := Lib.hid R.hc
  have ek : x.call.toNat = k := by have := R.hk; omega
  have EK := Lib.hid ek
  clear ek
  obtain ⟨wa, wc, ca, cc, ta, tc, c0, c1, c2, c3, c4, c5, c6, c7, c8, e0, e1, e2, e3, e4, hbr, hga, hne, fz, fa⟩ := hS.facts h R.hx
  have f0 := fa (t * 5)
  have f1 := fa (t * 5 + 1)
  have f2 := fa (t * 5 + 2)
  have f3 := fa (t * 5 + 3)
  have f4 := fa (t * 5 + 4)
  have g6 := fz 6
  have g7 := fz 7
  have g8 := fz 8
  clear fz fa
  obtain ⟨g, rfl, co, carg⟩ := hS.arg h R.hc c4
  rw [R.hk] at e0
  rw [hl] at e1
  have HS := Lib.hid hS
  have HH := Lib.hid h
  clear hl hS h
  unfold rptr
  go_enter Try.func98, Try.ntmps98
  go_wp2_with fail
  refine (ref_load W _ p m S F t 1 (by omega) (by have := R.len; have := R.room; omega) R.ntr HS.out HH.out).mono ?_
  clear c0 c1 c2 c3 c4 c5 c6 c7 c8 e0 e1 e2 e3 e4 f0 f1 f2 f3 f4 g6 g7 g8 hbr hga hne
  clear co carg
  rintro e w1 ⟨rfl, S1, s1, h1⟩
  have SH1 := Lib.hid s1
  have HH1 := Lib.hid h1
  clear s1 h1
  obtain ⟨wa, wc, ca, cc, ta, tc, c0, c1, c2, c3, c4, c5, c6, c7, c8, e0, e1, e2, e3, e4, hbr, hga, hne, fz, fa⟩ := SH1.out.facts HH1.out HX.out
  have f0 := fa (t * 5)
  have f1 := fa (t * 5 + 1)
  have f2 := fa (t * 5 + 2)
  have f3 := fa (t * 5 + 3)
  have f4 := fa (t * 5 + 4)
  have g6 := fz 6
  have g7 := fz 7
  have g8 := fz 8
  clear fz fa
  try dsimp only [DM.setTh, DM.dload, DM.dstore, DM.dswap] at c1 c6 c7 c8 e0 e1 e2 e3 e4
  rw [HL.out] at e1
  rw [R.hk] at e0
  obtain ⟨Sz, sz, hz⟩ := SH1.out.two HH1.out HX.out 2 (.int .i64 (wd m.words 1)) { x with b := wd m.words 1 } (by decide) rfl 1 (.int .i64 2) { x with b := wd m.words 1, line := 2 } (by decide) (by first | rfl | simp [encTh])
  have SHz := Lib.hid sz
  have HHz := Lib.hid hz
  clear sz hz
  have Q : Hid (∃ S', RefAt p (m.take t x c) S' ∧ Holds W ((w1.setCell ⟨p.ga, t * 5 + 2, none⟩ (.int .i64 (wd m.words 1))).setCell ⟨p.ga, t * 5 + 1, none⟩ (.int .i64 2)) (S' + F)) := by
    refine ⟨Sz, ?_, HHz.out⟩
    have e : m.take t x c = ((m.dload t 1).setTh t { x with b := wd m.words 1, line := 2 }) := by
      have ek := EK.out
      unfold DM.take
      rw [if_pos HL.out]
      try simp only [DM.fin, DM.point, DM.setTh, DM.dload, DM.dstore, DM.dswap, List.set_set, ek]
    rw [e]; exact SHz.out
  go_wp2_with fail
  first | (go_end0; exact ⟨rfl, Q.out⟩) | (refine bodyPost_ret (results_none rfl _ _ _) rfl ?_; exact ⟨rfl, Q.out⟩)

set_option maxHeartbeats 1000000 in
set_option maxRecDepth 100000 in
theorem ref_take_2 (R : RStep m t x c k) (hl : x.line = 2) (hb : -1 ≤ x.b - 1 ∧ x.b ≤ 70000) (hS : RefAt p m S) (h : Holds W w (S + F)) : Calls Try.prog 98 #[rptr p, .int .i64 (t : Int)] w (RfPost W p (m.take t x c) F (.tuple #[])) := by
  have htl : t < m.all.length := (List.getElem?_eq_some_iff.1 R.hx).1
  have hcl : k < m.calls.length := (List.getElem?_eq_some_iff.1 R.hc).1
  have z0 : (0 : Int) ≤ (t : Int) := by omega
  have z1 : (t : Int) < (m.all.length : Int) := by omega
  have z2 : (0 : Int) ≤ (k : Int) := by omega
  have z3 : (k : Int) < (m.calls.length : Int) := by omega
  have HL := Lib.hid hl
  have HX := Lib.hid R.hx
  have HC := Lib.hid R.hc
  have ek : x.call.toNat = k := by have := R.hk; omega
  have EK := Lib.hid ek
  clear ek
  have HB := Lib.hid hb
  clear hb
  have b0 : -1 ≤ x.b - 1 := HB.out.1
  have b1 : x.b ≤ 70000 := HB.out.2
  obtain ⟨wa, wc, ca, cc, ta, tc, c0, c1, c2, c3, c4, c5, c6, c7, c8, e0, e1, e2, e3, e4, hbr, hga, hne, fz, fa⟩ := hS.facts h R.hx
  have f0 := fa (t * 5)
  have f1 := fa (t * 5 + 1)
  have f2 := fa (t * 5 + 2)
  have f3 := fa (t * 5 + 3)
  have f4 := fa (t * 5 + 4)
  have g6 := fz 6
  have g7 := fz 7
  have g8 := fz 8
  clear fz fa
  obtain ⟨g, rfl, co, carg⟩ := hS.arg h R.hc c4
  rw [R.hk] at e0
  rw [hl] at e1
  have HS := Lib.hid hS
  have HH := Lib.hid h
  clear hl hS h
  unfold rptr
  go_enter Try.func98, Try.ntmps98
  go_wp2_with fail
  refine (ref_store W _ p m S F t 1 (x.b - 1) (by omega) (by have := R.len; have := R.room; omega) R.ntr HS.out HH.out).mono ?_
  clear c0 c1 c2 c3 c4 c5 c6 c7 c8 e0 e1 e2 e3 e4 f0 f1 f2 f3 f4 g6 g7 g8 hbr hga hne
  clear co carg
  rintro e w1 ⟨rfl, S1, s1, h1⟩
  have SH1 := Lib.hid s1
  have HH1 := Lib.hid h1
  clear s1 h1
  obtain ⟨wa, wc, ca, cc, ta, tc, c0, c1, c2, c3, c4, c5, c6, c7, c8, e0, e1, e2, e3, e4, hbr, hga, hne, fz, fa⟩ := SH1.out.facts HH1.out HX.out
  have f0 := fa (t * 5)
  have f1 := fa (t * 5 + 1)
  have f2 := fa (t * 5 + 2)
  have f3 := fa (t * 5 + 3)
  have f4 := fa (t * 5 + 4)
  have g6 := fz 6
  have g7 := fz 7
  have g8 := fz 8
  clear fz fa
  try dsimp only [DM.setTh, DM.dload, DM.dstore, DM.dswap] at c1 c6 c7 c8 e0 e1 e2 e3 e4
  rw [HL.out] at e1
  rw [R.hk] at e0
  go_wp2_with fail
  refine (ref_point W _ p (m.dstore t 1 (x.b - 1)) S1 F t x c k m.moves HX.out R.hk HC.out (by first | exact R.hn | (show (m.all.set t _).length ≤ 16; rw [List.length_set]; exact R.hn)) (by first | exact R.hnc | (show (m.calls.set k _).length ≤ 65536; rw [List.length_set]; exact R.hnc) | (show ((m.calls.set k _).set k _).length ≤ 65536; rw [List.length_set, List.length_set]; exact R.hnc)) SH1.out HH1.out).mono ?_
  clear c0 c1 c2 c3 c4 c5 c6 c7 c8 e0 e1 e2 e3 e4 f0 f1 f2 f3 f4 g6 g7 g8 hbr hga hne
  rintro e w2 ⟨rfl, S2, s2, h2⟩
  have SH2 := Lib.hid s2
  have HH2 := Lib.hid h2
  clear s2 h2
  obtain ⟨wa, wc, ca, cc, ta, tc, c0, c1, c2, c3, c4, c5, c6, c7, c8, e0, e1, e2, e3, e4, hbr, hga, hne, fz, fa⟩ := SH2.out.facts HH2.out HX.out
  have f0 := fa (t * 5)
  have f1 := fa (t * 5 + 1)
  have f2 := fa (t * 5 + 2)
  have f3 := fa (t * 5 + 3)
  have f4 := fa (t * 5 + 4)
  have g6 := fz 6
  have g7 := fz 7
  have g8 := fz 8
  clear fz fa
  try dsimp only [DM.setTh, DM.dload, DM.dstore, DM.dswap] at c1 c6 c7 c8 e0 e1 e2 e3 e4
  rw [HL.out] at e1
  rw [R.hk] at e0
  obtain ⟨S3, s3, h3⟩ := SH2.out.setDown HH2.out (m.moves)
  have SH3 := Lib.hid s3
  have HH3 := Lib.hid h3
  clear s3 h3
  obtain ⟨S4, s4, h4⟩ := SH3.out.setLast HH3.out (x.b - 1)
  have SH4 := Lib.hid s4
  have HH4 := Lib.hid h4
  clear s4 h4
  obtain ⟨S5, s5, h5⟩ := SH4.out.one HH4.out HX.out 1 (.int .i64 3) { x with line := 3 } (by decide) (by first | rfl | simp [encTh])
  have SH5 := Lib.hid s5
  have HH5 := Lib.hid h5
  clear s5 h5
  have hx5 : ({ { { (m.dstore t 1 (x.b - 1)) with calls := ((m.dstore t 1 (x.b - 1))).calls.set k { c with point := m.moves } } with down := m.moves } with last := x.b - 1 }.setTh t { x with line := 3 }).all[t]? = some { x with line := 3 } := get_set HX.out _
  have HX5 := Lib.hid hx5
  clear hx5
  have Q : Hid (∃ S', RefAt p (m.take t x c) S' ∧ Holds W (((w2.setCell ⟨p.br, 7, none⟩ (.int .i64 (m.moves))).setCell ⟨p.br, 8, none⟩ (.int .i64 (x.b - 1))).setCell ⟨p.ga, t * 5 + 1, none⟩ (.int .i64 3)) (S' + F)) := by
    refine ⟨S5, ?_, HH5.out⟩
    have e : m.take t x c = ({ { { (m.dstore t 1 (x.b - 1)) with calls := ((m.dstore t 1 (x.b - 1))).calls.set k { c with point := m.moves } } with down := m.moves } with last := x.b - 1 }.setTh t { x with line := 3 }) := by
      have ek := EK.out
      unfold DM.take
      rw [if_neg (by have := HL.out; omega), if_pos HL.out]
      try simp only [DM.point, DM.setTh, DM.dstore, ek]
    rw [e]; exact SH5.out
  go_wp2_with fail
  first | (go_end0; exact ⟨rfl, Q.out⟩) | (refine bodyPost_ret (results_none rfl _ _ _) rfl ?_; exact ⟨rfl, Q.out⟩)

set_option maxHeartbeats 1000000 in
set_option maxRecDepth 100000 in
theorem ref_take_3e (R : RStep m t x c k) (hl : x.line = 3) (hb : -1 ≤ x.b - 1 ∧ x.b ≤ 70000) (he : x.b - 1 < wd m.words 0) (hS : RefAt p m S) (h : Holds W w (S + F)) : Calls Try.prog 98 #[rptr p, .int .i64 (t : Int)] w (RfPost W p (m.take t x c) F (.tuple #[])) := by
  have htl : t < m.all.length := (List.getElem?_eq_some_iff.1 R.hx).1
  have hcl : k < m.calls.length := (List.getElem?_eq_some_iff.1 R.hc).1
  have z0 : (0 : Int) ≤ (t : Int) := by omega
  have z1 : (t : Int) < (m.all.length : Int) := by omega
  have z2 : (0 : Int) ≤ (k : Int) := by omega
  have z3 : (k : Int) < (m.calls.length : Int) := by omega
  have HL := Lib.hid hl
  have HX := Lib.hid R.hx
  have HC := Lib.hid R.hc
  have ek : x.call.toNat = k := by have := R.hk; omega
  have EK := Lib.hid ek
  clear ek
  have HB := Lib.hid hb
  clear hb
  have b0 : -1 ≤ x.b - 1 := HB.out.1
  have b1 : x.b ≤ 70000 := HB.out.2
  have d : decide (x.b - 1 < wd m.words 0) = true := decide_eq_true he
  have HE := Lib.hid he
  clear he
  obtain ⟨wa, wc, ca, cc, ta, tc, c0, c1, c2, c3, c4, c5, c6, c7, c8, e0, e1, e2, e3, e4, hbr, hga, hne, fz, fa⟩ := hS.facts h R.hx
  have f0 := fa (t * 5)
  have f1 := fa (t * 5 + 1)
  have f2 := fa (t * 5 + 2)
  have f3 := fa (t * 5 + 3)
  have f4 := fa (t * 5 + 4)
  have g6 := fz 6
  have g7 := fz 7
  have g8 := fz 8
  clear fz fa
  obtain ⟨g, rfl, co, carg⟩ := hS.arg h R.hc c4
  rw [R.hk] at e0
  rw [hl] at e1
  have HS := Lib.hid hS
  have HH := Lib.hid h
  clear hl hS h
  unfold rptr
  go_enter Try.func98, Try.ntmps98
  go_wp2_with fail
  refine (ref_load W _ p m S F t 0 (by omega) (by have := R.len; have := R.room; omega) R.ntr HS.out HH.out).mono ?_
  clear c0 c1 c2 c3 c4 c5 c6 c7 c8 e0 e1 e2 e3 e4 f0 f1 f2 f3 f4 g6 g7 g8 hbr hga hne
  clear co carg
  rintro e w1 ⟨rfl, S1, s1, h1⟩
  have SH1 := Lib.hid s1
  have HH1 := Lib.hid h1
  clear s1 h1
  obtain ⟨wa, wc, ca, cc, ta, tc, c0, c1, c2, c3, c4, c5, c6, c7, c8, e0, e1, e2, e3, e4, hbr, hga, hne, fz, fa⟩ := SH1.out.facts HH1.out HX.out
  have f0 := fa (t * 5)
  have f1 := fa (t * 5 + 1)
  have f2 := fa (t * 5 + 2)
  have f3 := fa (t * 5 + 3)
  have f4 := fa (t * 5 + 4)
  have g6 := fz 6
  have g7 := fz 7
  have g8 := fz 8
  clear fz fa
  try dsimp only [DM.setTh, DM.dload, DM.dstore, DM.dswap] at c1 c6 c7 c8 e0 e1 e2 e3 e4
  rw [HL.out] at e1
  rw [R.hk] at e0
  obtain ⟨S2, s2, h2⟩ := SH1.out.one HH1.out HX.out 3 (.int .i64 (wd m.words 0)) { x with t := wd m.words 0 } (by decide) (by first | rfl | simp [encTh])
  have SH2 := Lib.hid s2
  have HH2 := Lib.hid h2
  clear s2 h2
  have hx2 : ((m.dload t 0).setTh t { x with t := wd m.words 0 }).all[t]? = some { x with t := wd m.words 0 } := get_set HX.out _
  have HX2 := Lib.hid hx2
  clear hx2
  go_wp2_with fail
  generalize w1.setCell ⟨p.ga, t * 5 + 3, none⟩ (.int .i64 (wd m.words 0)) = v2 at *
  clear c0 c1 c2 c3 c4 c5 c6 c7 c8 e0 e1 e2 e3 e4 f0 f1 f2 f3 f4 g6 g7 g8 hbr hga hne
  obtain ⟨wa, wc, ca, cc, ta, tc, c0, c1, c2, c3, c4, c5, c6, c7, c8, e0, e1, e2, e3, e4, hbr, hga, hne, fz, fa⟩ := SH2.out.facts HH2.out HX2.out
  have f0 := fa (t * 5)
  have f1 := fa (t * 5 + 1)
  have f2 := fa (t * 5 + 2)
  have f3 := fa (t * 5 + 3)
  have f4 := fa (t * 5 + 4)
  have g6 := fz 6
  have g7 := fz 7
  have g8 := fz 8
  clear fz fa
  try dsimp only [DM.setTh, DM.dload, DM.dstore, DM.dswap] at c1 c6 c7 c8 e0 e1 e2 e3 e4
  rw [HL.out] at e1
  rw [R.hk] at e0
  refine (ref_point W _ p ((m.dload t 0).setTh t { x with t := wd m.words 0 }) S2 F t { x with t := wd m.words 0 } c k m.moves HX2.out R.hk HC.out (by first | exact R.hn | (show (m.all.set t _).length ≤ 16; rw [List.length_set]; exact R.hn)) (by first | exact R.hnc | (show (m.calls.set k _).length ≤ 65536; rw [List.length_set]; exact R.hnc) | (show ((m.calls.set k _).set k _).length ≤ 65536; rw [List.length_set, List.length_set]; exact R.hnc)) SH2.out HH2.out).mono ?_
  clear c0 c1 c2 c3 c4 c5 c6 c7 c8 e0 e1 e2 e3 e4 f0 f1 f2 f3 f4 g6 g7 g8 hbr hga hne
  rintro e w3 ⟨rfl, S3, s3, h3⟩
  have SH3 := Lib.hid s3
  have HH3 := Lib.hid h3
  clear s3 h3
  obtain ⟨wa, wc, ca, cc, ta, tc, c0, c1, c2, c3, c4, c5, c6, c7, c8, e0, e1, e2, e3, e4, hbr, hga, hne, fz, fa⟩ := SH3.out.facts HH3.out HX2.out
  have f0 := fa (t * 5)
  have f1 := fa (t * 5 + 1)
  have f2 := fa (t * 5 + 2)
  have f3 := fa (t * 5 + 3)
  have f4 := fa (t * 5 + 4)
  have g6 := fz 6
  have g7 := fz 7
  have g8 := fz 8
  clear fz fa
  try dsimp only [DM.setTh, DM.dload, DM.dstore, DM.dswap] at c1 c6 c7 c8 e0 e1 e2 e3 e4
  rw [HL.out] at e1
  rw [R.hk] at e0
  obtain ⟨S4, s4, h4⟩ := SH3.out.one HH3.out HX2.out 1 (.int .i64 4) { x with t := wd m.words 0, line := 4 } (by decide) (by first | rfl | simp [encTh])
  have SH4 := Lib.hid s4
  have HH4 := Lib.hid h4
  clear s4 h4
  have hx4 : ({ ((m.dload t 0).setTh t { x with t := wd m.words 0 }) with calls := (((m.dload t 0).setTh t { x with t := wd m.words 0 })).calls.set k { c with point := m.moves } }.setTh t { x with t := wd m.words 0, line := 4 }).all[t]? = some { x with t := wd m.words 0, line := 4 } := get_set HX2.out _
  have HX4 := Lib.hid hx4
  clear hx4
  have Q : Hid (∃ S', RefAt p (m.take t x c) S' ∧ Holds W (w3.setCell ⟨p.ga, t * 5 + 1, none⟩ (.int .i64 4)) (S' + F)) := by
    refine ⟨S4, ?_, HH4.out⟩
    have e : m.take t x c = ({ ((m.dload t 0).setTh t { x with t := wd m.words 0 }) with calls := (((m.dload t 0).setTh t { x with t := wd m.words 0 })).calls.set k { c with point := m.moves } }.setTh t { x with t := wd m.words 0, line := 4 }) := by
      have ek := EK.out
      unfold DM.take
      rw [if_neg (by have := HL.out; omega), if_neg (by have := HL.out; omega), if_pos HL.out, if_pos HE.out]
      try simp only [DM.point, DM.setTh, DM.dload, List.set_set, ek]
    rw [e]; exact SH4.out
  go_wp2_with fail
  first | (go_end0; exact ⟨rfl, Q.out⟩) | (refine bodyPost_ret (results_none rfl _ _ _) rfl ?_; exact ⟨rfl, Q.out⟩)

set_option maxHeartbeats 1000000 in
set_option maxRecDepth 100000 in
theorem ref_take_3n (R : RStep m t x c k) (hl : x.line = 3) (hb : -1 ≤ x.b - 1 ∧ x.b ≤ 70000) (he : ¬ x.b - 1 < wd m.words 0) (hS : RefAt p m S) (h : Holds W w (S + F)) : Calls Try.prog 98 #[rptr p, .int .i64 (t : Int)] w (RfPost W p (m.take t x c) F (.tuple #[])) := by
  have htl : t < m.all.length := (List.getElem?_eq_some_iff.1 R.hx).1
  have hcl : k < m.calls.length := (List.getElem?_eq_some_iff.1 R.hc).1
  have z0 : (0 : Int) ≤ (t : Int) := by omega
  have z1 : (t : Int) < (m.all.length : Int) := by omega
  have z2 : (0 : Int) ≤ (k : Int) := by omega
  have z3 : (k : Int) < (m.calls.length : Int) := by omega
  have HL := Lib.hid hl
  have HX := Lib.hid R.hx
  have HC := Lib.hid R.hc
  have ek : x.call.toNat = k := by have := R.hk; omega
  have EK := Lib.hid ek
  clear ek
  have HB := Lib.hid hb
  clear hb
  have b0 : -1 ≤ x.b - 1 := HB.out.1
  have b1 : x.b ≤ 70000 := HB.out.2
  have d : decide (x.b - 1 < wd m.words 0) = false := decide_eq_false he
  have HE := Lib.hid he
  clear he
  obtain ⟨wa, wc, ca, cc, ta, tc, c0, c1, c2, c3, c4, c5, c6, c7, c8, e0, e1, e2, e3, e4, hbr, hga, hne, fz, fa⟩ := hS.facts h R.hx
  have f0 := fa (t * 5)
  have f1 := fa (t * 5 + 1)
  have f2 := fa (t * 5 + 2)
  have f3 := fa (t * 5 + 3)
  have f4 := fa (t * 5 + 4)
  have g6 := fz 6
  have g7 := fz 7
  have g8 := fz 8
  clear fz fa
  obtain ⟨g, rfl, co, carg⟩ := hS.arg h R.hc c4
  rw [R.hk] at e0
  rw [hl] at e1
  have HS := Lib.hid hS
  have HH := Lib.hid h
  clear hl hS h
  unfold rptr
  go_enter Try.func98, Try.ntmps98
  go_wp2_with fail
  refine (ref_load W _ p m S F t 0 (by omega) (by have := R.len; have := R.room; omega) R.ntr HS.out HH.out).mono ?_
  clear c0 c1 c2 c3 c4 c5 c6 c7 c8 e0 e1 e2 e3 e4 f0 f1 f2 f3 f4 g6 g7 g8 hbr hga hne
  clear co carg
  rintro e w1 ⟨rfl, S1, s1, h1⟩
  have SH1 := Lib.hid s1
  have HH1 := Lib.hid h1
  clear s1 h1
  obtain ⟨wa, wc, ca, cc, ta, tc, c0, c1, c2, c3, c4, c5, c6, c7, c8, e0, e1, e2, e3, e4, hbr, hga, hne, fz, fa⟩ := SH1.out.facts HH1.out HX.out
  have f0 := fa (t * 5)
  have f1 := fa (t * 5 + 1)
  have f2 := fa (t * 5 + 2)
  have f3 := fa (t * 5 + 3)
  have f4 := fa (t * 5 + 4)
  have g6 := fz 6
  have g7 := fz 7
  have g8 := fz 8
  clear fz fa
  try dsimp only [DM.setTh, DM.dload, DM.dstore, DM.dswap] at c1 c6 c7 c8 e0 e1 e2 e3 e4
  rw [HL.out] at e1
  rw [R.hk] at e0
  obtain ⟨Sz, sz, hz⟩ := SH1.out.two HH1.out HX.out 3 (.int .i64 (wd m.words 0)) { x with t := wd m.words 0 } (by decide) rfl 1 (.int .i64 5) { x with t := wd m.words 0, line := 5 } (by decide) (by first | rfl | simp [encTh])
  have SHz := Lib.hid sz
  have HHz := Lib.hid hz
  clear sz hz
  have Q : Hid (∃ S', RefAt p (m.take t x c) S' ∧ Holds W ((w1.setCell ⟨p.ga, t * 5 + 3, none⟩ (.int .i64 (wd m.words 0))).setCell ⟨p.ga, t * 5 + 1, none⟩ (.int .i64 5)) (S' + F)) := by
    refine ⟨Sz, ?_, HHz.out⟩
    have e : m.take t x c = ((m.dload t 0).setTh t { x with t := wd m.words 0, line := 5 }) := by
      have ek := EK.out
      unfold DM.take
      rw [if_neg (by have := HL.out; omega), if_neg (by have := HL.out; omega), if_pos HL.out, if_neg (by have := HE.out; omega)]
      try simp only [DM.fin, DM.point, DM.setTh, DM.dload, DM.dstore, DM.dswap, List.set_set, ek]
    rw [e]; exact SHz.out
  go_wp2_with fail
  first | (go_end0; exact ⟨rfl, Q.out⟩) | (refine bodyPost_ret (results_none rfl _ _ _) rfl ?_; exact ⟨rfl, Q.out⟩)

set_option maxHeartbeats 1000000 in
set_option maxRecDepth 100000 in
theorem ref_take_4 (R : RStep m t x c k) (hl : x.line = 4) (hb : -1 ≤ x.b - 1 ∧ x.b ≤ 70000) (hS : RefAt p m S) (h : Holds W w (S + F)) : Calls Try.prog 98 #[rptr p, .int .i64 (t : Int)] w (RfPost W p (m.take t x c) F (.tuple #[])) := by
  have htl : t < m.all.length := (List.getElem?_eq_some_iff.1 R.hx).1
  have hcl : k < m.calls.length := (List.getElem?_eq_some_iff.1 R.hc).1
  have z0 : (0 : Int) ≤ (t : Int) := by omega
  have z1 : (t : Int) < (m.all.length : Int) := by omega
  have z2 : (0 : Int) ≤ (k : Int) := by omega
  have z3 : (k : Int) < (m.calls.length : Int) := by omega
  have HL := Lib.hid hl
  have HX := Lib.hid R.hx
  have HC := Lib.hid R.hc
  have ek : x.call.toNat = k := by have := R.hk; omega
  have EK := Lib.hid ek
  clear ek
  have HB := Lib.hid hb
  clear hb
  have b0 : -1 ≤ x.b - 1 := HB.out.1
  have b1 : x.b ≤ 70000 := HB.out.2
  obtain ⟨wa, wc, ca, cc, ta, tc, c0, c1, c2, c3, c4, c5, c6, c7, c8, e0, e1, e2, e3, e4, hbr, hga, hne, fz, fa⟩ := hS.facts h R.hx
  have f0 := fa (t * 5)
  have f1 := fa (t * 5 + 1)
  have f2 := fa (t * 5 + 2)
  have f3 := fa (t * 5 + 3)
  have f4 := fa (t * 5 + 4)
  have g6 := fz 6
  have g7 := fz 7
  have g8 := fz 8
  clear fz fa
  obtain ⟨g, rfl, co, carg⟩ := hS.arg h R.hc c4
  rw [R.hk] at e0
  rw [hl] at e1
  have HS := Lib.hid hS
  have HH := Lib.hid h
  clear hl hS h
  unfold rptr
  go_enter Try.func98, Try.ntmps98
  go_wp2_with fail
  refine (ref_store W _ p m S F t 1 x.t (by omega) (by have := R.len; have := R.room; omega) R.ntr HS.out HH.out).mono ?_
  clear c0 c1 c2 c3 c4 c5 c6 c7 c8 e0 e1 e2 e3 e4 f0 f1 f2 f3 f4 g6 g7 g8 hbr hga hne
  clear co carg
  rintro e w1 ⟨rfl, S1, s1, h1⟩
  have SH1 := Lib.hid s1
  have HH1 := Lib.hid h1
  clear s1 h1
  obtain ⟨wa, wc, ca, cc, ta, tc, c0, c1, c2, c3, c4, c5, c6, c7, c8, e0, e1, e2, e3, e4, hbr, hga, hne, fz, fa⟩ := SH1.out.facts HH1.out HX.out
  have f0 := fa (t * 5)
  have f1 := fa (t * 5 + 1)
  have f2 := fa (t * 5 + 2)
  have f3 := fa (t * 5 + 3)
  have f4 := fa (t * 5 + 4)
  have g6 := fz 6
  have g7 := fz 7
  have g8 := fz 8
  clear fz fa
  try dsimp only [DM.setTh, DM.dload, DM.dstore, DM.dswap] at c1 c6 c7 c8 e0 e1 e2 e3 e4
  rw [HL.out] at e1
  rw [R.hk] at e0
  obtain ⟨S2, s2, h2⟩ := SH1.out.setDown HH1.out (-1)
  have SH2 := Lib.hid s2
  have HH2 := Lib.hid h2
  clear s2 h2
  go_wp2_with fail
  generalize w1.setCell ⟨p.br, 7, none⟩ (.int .i64 (-1)) = v3 at *
  clear c0 c1 c2 c3 c4 c5 c6 c7 c8 e0 e1 e2 e3 e4 f0 f1 f2 f3 f4 g6 g7 g8 hbr hga hne
  obtain ⟨wa, wc, ca, cc, ta, tc, c0, c1, c2, c3, c4, c5, c6, c7, c8, e0, e1, e2, e3, e4, hbr, hga, hne, fz, fa⟩ := SH2.out.facts HH2.out HX.out
  have f0 := fa (t * 5)
  have f1 := fa (t * 5 + 1)
  have f2 := fa (t * 5 + 2)
  have f3 := fa (t * 5 + 3)
  have f4 := fa (t * 5 + 4)
  have g6 := fz 6
  have g7 := fz 7
  have g8 := fz 8
  clear fz fa
  try dsimp only [DM.setTh, DM.dload, DM.dstore, DM.dswap] at c1 c6 c7 c8 e0 e1 e2 e3 e4
  rw [HL.out] at e1
  rw [R.hk] at e0
  refine (ref_end W _ p { (m.dstore t 1 x.t) with down := -1 } S2 F t x c k 3 0 HX.out R.hk HC.out (by first | exact R.hn | (show (m.all.set t _).length ≤ 16; rw [List.length_set]; exact R.hn)) (by first | exact R.hnc | (show (m.calls.set k _).length ≤ 65536; rw [List.length_set]; exact R.hnc) | (show ((m.calls.set k _).set k _).length ≤ 65536; rw [List.length_set, List.length_set]; exact R.hnc)) SH2.out HH2.out).mono ?_
  clear c0 c1 c2 c3 c4 c5 c6 c7 c8 e0 e1 e2 e3 e4 f0 f1 f2 f3 f4 g6 g7 g8 hbr hga hne
  rintro e w4 ⟨rfl, S4, s4, h4⟩
  have SH4 := Lib.hid s4
  have HH4 := Lib.hid h4
  clear s4 h4
  go_wp2_with fail
  have Q : Hid (∃ S', RefAt p (m.take t x c) S' ∧ Holds W w4 (S' + F)) := by
    refine ⟨S4, ?_, HH4.out⟩
    have e : m.take t x c = (DM.fin { (m.dstore t 1 x.t) with down := -1 } t x c 3 0) := by
      have ek := EK.out
      unfold DM.take
      rw [if_neg (by have := HL.out; omega), if_neg (by have := HL.out; omega), if_neg (by have := HL.out; omega), if_pos HL.out]
      try simp only [DM.fin, DM.dstore, ek]
    rw [e]; exact SH4.out
  first | (go_end0; exact ⟨rfl, Q.out⟩) | (refine bodyPost_ret (results_none rfl _ _ _) rfl ?_; exact ⟨rfl, Q.out⟩)

set_option maxHeartbeats 1000000 in
set_option maxRecDepth 100000 in
theorem ref_take_6w (R : RStep m t x c k) (hl : x.line = 6) (hb : (-1 ≤ x.b - 1 ∧ x.b ≤ 70000) ∧ 0 ≤ x.t ∧ x.t ≤ 70000) (he : wd m.words 0 = x.t) (hS : RefAt p m S) (h : Holds W w (S + F)) : Calls Try.prog 98 #[rptr p, .int .i64 (t : Int)] w (RfPost W p (m.take t x c) F (.tuple #[])) := by
  have htl : t < m.all.length := (List.getElem?_eq_some_iff.1 R.hx).1
  have hcl : k < m.calls.length := (List.getElem?_eq_some_iff.1 R.hc).1
  have z0 : (0 : Int) ≤ (t : Int) := by omega
  have z1 : (t : Int) < (m.all.length : Int) := by omega
  have z2 : (0 : Int) ≤ (k : Int) := by omega
  have z3 : (k : Int) < (m.calls.length : Int) := by omega
  have HL := Lib.hid hl
  have HX := Lib.hid R.hx
  have HC := Lib.hid R.hc
  have ek : x.call.toNat = k := by have := R.hk; omega
  have EK := Lib.hid ek
  clear ek
  have HB := Lib.hid hb
  clear hb
  have b0 : -1 ≤ x.b - 1 := HB.out.1.1
  have b1 : x.b ≤ 70000 := HB.out.1.2
  have HE := Lib.hid he
  clear he
  obtain ⟨wa, wc, ca, cc, ta, tc, c0, c1, c2, c3, c4, c5, c6, c7, c8, e0, e1, e2, e3, e4, hbr, hga, hne, fz, fa⟩ := hS.facts h R.hx
  have f0 := fa (t * 5)
  have f1 := fa (t * 5 + 1)
  have f2 := fa (t * 5 + 2)
  have f3 := fa (t * 5 + 3)
  have f4 := fa (t * 5 + 4)
  have g6 := fz 6
  have g7 := fz 7
  have g8 := fz 8
  clear fz fa
  obtain ⟨g, rfl, co, carg⟩ := hS.arg h R.hc c4
  rw [R.hk] at e0
  rw [hl] at e1
  have HS := Lib.hid hS
  have HH := Lib.hid h
  clear hl hS h
  unfold rptr
  go_enter Try.func98, Try.ntmps98
  go_wp2_with fail
  refine (ref_swap_yes W _ p m S F t x.t (by have := HB.out; omega) (by have := HB.out; omega) (by have := R.len; have := R.room; omega) HE.out R.ntr HS.out HH.out).mono ?_
  clear c0 c1 c2 c3 c4 c5 c6 c7 c8 e0 e1 e2 e3 e4 f0 f1 f2 f3 f4 g6 g7 g8 hbr hga hne
  clear co carg
  rintro e w1 ⟨rfl, S1, s1, h1⟩
  have SH1 := Lib.hid s1
  have HH1 := Lib.hid h1
  clear s1 h1
  obtain ⟨wa, wc, ca, cc, ta, tc, c0, c1, c2, c3, c4, c5, c6, c7, c8, e0, e1, e2, e3, e4, hbr, hga, hne, fz, fa⟩ := SH1.out.facts HH1.out HX.out
  have f0 := fa (t * 5)
  have f1 := fa (t * 5 + 1)
  have f2 := fa (t * 5 + 2)
  have f3 := fa (t * 5 + 3)
  have f4 := fa (t * 5 + 4)
  have g6 := fz 6
  have g7 := fz 7
  have g8 := fz 8
  clear fz fa
  try dsimp only [DM.setTh, DM.dload, DM.dstore, DM.dswap] at c1 c6 c7 c8 e0 e1 e2 e3 e4
  rw [HL.out] at e1
  rw [R.hk] at e0
  obtain ⟨S2, s2, h2⟩ := SH1.out.one HH1.out HX.out 1 (.int .i64 7) { x with line := 7 } (by decide) (by first | rfl | simp [encTh])
  have SH2 := Lib.hid s2
  have HH2 := Lib.hid h2
  clear s2 h2
  have hx2 : ((m.dswap t x.t).setTh t { x with line := 7 }).all[t]? = some { x with line := 7 } := get_set HX.out _
  have HX2 := Lib.hid hx2
  clear hx2
  have Q : Hid (∃ S', RefAt p (m.take t x c) S' ∧ Holds W (w1.setCell ⟨p.ga, t * 5 + 1, none⟩ (.int .i64 7)) (S' + F)) := by
    refine ⟨S2, ?_, HH2.out⟩
    have e : m.take t x c = ((m.dswap t x.t).setTh t { x with line := 7 }) := by
      have ek := EK.out
      unfold DM.take
      rw [if_neg (by have := HL.out; omega), if_neg (by have := HL.out; omega), if_neg (by have := HL.out; omega), if_neg (by have := HL.out; omega), if_neg (by have := HL.out; omega), if_pos HL.out, if_pos HE.out]
      try simp only [DM.fin, DM.point, DM.setTh, DM.dload, DM.dstore, DM.dswap, List.set_set, ek]
    rw [e]; exact SH2.out
  go_wp2_with fail
  first | (go_end0; exact ⟨rfl, Q.out⟩) | (refine bodyPost_ret (results_none rfl _ _ _) rfl ?_; exact ⟨rfl, Q.out⟩)

set_option maxHeartbeats 1000000 in
set_option maxRecDepth 100000 in
theorem ref_take_6l (R : RStep m t x c k) (hl : x.line = 6) (hb : (-1 ≤ x.b - 1 ∧ x.b ≤ 70000) ∧ 0 ≤ x.t ∧ x.t ≤ 70000) (he : wd m.words 0 ≠ x.t) (hS : RefAt p m S) (h : Holds W w (S + F)) : Calls Try.prog 98 #[rptr p, .int .i64 (t : Int)] w (RfPost W p (m.take t x c) F (.tuple #[])) := by
  have htl : t < m.all.length := (List.getElem?_eq_some_iff.1 R.hx).1
  have hcl : k < m.calls.length := (List.getElem?_eq_some_iff.1 R.hc).1
  have z0 : (0 : Int) ≤ (t : Int) := by omega
  have z1 : (t : Int) < (m.all.length : Int) := by omega
  have z2 : (0 : Int) ≤ (k : Int) := by omega
  have z3 : (k : Int) < (m.calls.length : Int) := by omega
  have HL := Lib.hid hl
  have HX := Lib.hid R.hx
  have HC := Lib.hid R.hc
  have ek : x.call.toNat = k := by have := R.hk; omega
  have EK := Lib.hid ek
  clear ek
  have HB := Lib.hid hb
  clear hb
  have b0 : -1 ≤ x.b - 1 := HB.out.1.1
  have b1 : x.b ≤ 70000 := HB.out.1.2
  have HE := Lib.hid he
  clear he
  obtain ⟨wa, wc, ca, cc, ta, tc, c0, c1, c2, c3, c4, c5, c6, c7, c8, e0, e1, e2, e3, e4, hbr, hga, hne, fz, fa⟩ := hS.facts h R.hx
  have f0 := fa (t * 5)
  have f1 := fa (t * 5 + 1)
  have f2 := fa (t * 5 + 2)
  have f3 := fa (t * 5 + 3)
  have f4 := fa (t * 5 + 4)
  have g6 := fz 6
  have g7 := fz 7
  have g8 := fz 8
  clear fz fa
  obtain ⟨g, rfl, co, carg⟩ := hS.arg h R.hc c4
  rw [R.hk] at e0
  rw [hl] at e1
  have HS := Lib.hid hS
  have HH := Lib.hid h
  clear hl hS h
  unfold rptr
  go_enter Try.func98, Try.ntmps98
  go_wp2_with fail
  refine (ref_swap_no W _ p m S F t x.t (by have := HB.out; omega) (by have := HB.out; omega) (by have := R.len; have := R.room; omega) HE.out R.ntr HS.out HH.out).mono ?_
  clear c0 c1 c2 c3 c4 c5 c6 c7 c8 e0 e1 e2 e3 e4 f0 f1 f2 f3 f4 g6 g7 g8 hbr hga hne
  clear co carg
  rintro e w1 ⟨rfl, S1, s1, h1⟩
  have SH1 := Lib.hid s1
  have HH1 := Lib.hid h1
  clear s1 h1
  obtain ⟨wa, wc, ca, cc, ta, tc, c0, c1, c2, c3, c4, c5, c6, c7, c8, e0, e1, e2, e3, e4, hbr, hga, hne, fz, fa⟩ := SH1.out.facts HH1.out HX.out
  have f0 := fa (t * 5)
  have f1 := fa (t * 5 + 1)
  have f2 := fa (t * 5 + 2)
  have f3 := fa (t * 5 + 3)
  have f4 := fa (t * 5 + 4)
  have g6 := fz 6
  have g7 := fz 7
  have g8 := fz 8
  clear fz fa
  try dsimp only [DM.setTh, DM.dload, DM.dstore, DM.dswap] at c1 c6 c7 c8 e0 e1 e2 e3 e4
  rw [HL.out] at e1
  rw [R.hk] at e0
  go_wp2_with fail
  refine (ref_point W _ p (m.dswap t x.t) S1 F t x c k m.moves HX.out R.hk HC.out (by first | exact R.hn | (show (m.all.set t _).length ≤ 16; rw [List.length_set]; exact R.hn)) (by first | exact R.hnc | (show (m.calls.set k _).length ≤ 65536; rw [List.length_set]; exact R.hnc) | (show ((m.calls.set k _).set k _).length ≤ 65536; rw [List.length_set, List.length_set]; exact R.hnc)) SH1.out HH1.out).mono ?_
  clear c0 c1 c2 c3 c4 c5 c6 c7 c8 e0 e1 e2 e3 e4 f0 f1 f2 f3 f4 g6 g7 g8 hbr hga hne
  rintro e w2 ⟨rfl, S2, s2, h2⟩
  have SH2 := Lib.hid s2
  have HH2 := Lib.hid h2
  clear s2 h2
  obtain ⟨wa, wc, ca, cc, ta, tc, c0, c1, c2, c3, c4, c5, c6, c7, c8, e0, e1, e2, e3, e4, hbr, hga, hne, fz, fa⟩ := SH2.out.facts HH2.out HX.out
  have f0 := fa (t * 5)
  have f1 := fa (t * 5 + 1)
  have f2 := fa (t * 5 + 2)
  have f3 := fa (t * 5 + 3)
  have f4 := fa (t * 5 + 4)
  have g6 := fz 6
  have g7 := fz 7
  have g8 := fz 8
  clear fz fa
  try dsimp only [DM.setTh, DM.dload, DM.dstore, DM.dswap] at c1 c6 c7 c8 e0 e1 e2 e3 e4
  rw [HL.out] at e1
  rw [R.hk] at e0
  obtain ⟨S3, s3, h3⟩ := SH2.out.one HH2.out HX.out 1 (.int .i64 8) { x with line := 8 } (by decide) (by first | rfl | simp [encTh])
  have SH3 := Lib.hid s3
  have HH3 := Lib.hid h3
  clear s3 h3
  have hx3 : ({ (m.dswap t x.t) with calls := ((m.dswap t x.t)).calls.set k { c with point := m.moves } }.setTh t { x with line := 8 }).all[t]? = some { x with line := 8 } := get_set HX.out _
  have HX3 := Lib.hid hx3
  clear hx3
  have Q : Hid (∃ S', RefAt p (m.take t x c) S' ∧ Holds W (w2.setCell ⟨p.ga, t * 5 + 1, none⟩ (.int .i64 8)) (S' + F)) := by
    refine ⟨S3, ?_, HH3.out⟩
    have e : m.take t x c = ({ (m.dswap t x.t) with calls := ((m.dswap t x.t)).calls.set k { c with point := m.moves } }.setTh t { x with line := 8 }) := by
      have ek := EK.out
      unfold DM.take
      rw [if_neg (by have := HL.out; omega), if_neg (by have := HL.out; omega), if_neg (by have := HL.out; omega), if_neg (by have := HL.out; omega), if_neg (by have := HL.out; omega), if_pos HL.out, if_neg HE.out]
      try simp only [DM.point, DM.setTh, DM.dswap, ek]
    rw [e]; exact SH3.out
  go_wp2_with fail
  first | (go_end0; exact ⟨rfl, Q.out⟩) | (refine bodyPost_ret (results_none rfl _ _ _) rfl ?_; exact ⟨rfl, Q.out⟩)

set_option maxHeartbeats 1000000 in
set_option maxRecDepth 100000 in
theorem ref_take_7 (R : RStep m t x c k) (hl : x.line = 7) (hb : (-1 ≤ x.b - 1 ∧ x.b ≤ 70000) ∧ 0 ≤ x.t ∧ x.t ≤ 70000) (hS : RefAt p m S) (h : Holds W w (S + F)) : Calls Try.prog 98 #[rptr p, .int .i64 (t : Int)] w (RfPost W p (m.take t x c) F (.tuple #[])) := by
  have htl : t < m.all.length := (List.getElem?_eq_some_iff.1 R.hx).1
  have hcl : k < m.calls.length := (List.getElem?_eq_some_iff.1 R.hc).1
  have z0 : (0 : Int) ≤ (t : Int) := by omega
  have z1 : (t : Int) < (m.all.length : Int) := by omega
  have z2 : (0 : Int) ≤ (k : Int) := by omega
  have z3 : (k : Int) < (m.calls.length : Int) := by omega
  have HL := Lib.hid hl
  have HX := Lib.hid R.hx
  have HC := Lib.hid R.hc
  have ek : x.call.toNat = k := by have := R.hk; omega
  have EK := Lib.hid ek
  clear ek
  have HB := Lib.hid hb
  clear hb
  have b0 : -1 ≤ x.b - 1 := HB.out.1.1
  have b1 : x.b ≤ 70000 := HB.out.1.2
  have b2 : 0 ≤ x.t := HB.out.2.1
  have b3 : x.t ≤ 70000 := HB.out.2.2
  obtain ⟨wa, wc, ca, cc, ta, tc, c0, c1, c2, c3, c4, c5, c6, c7, c8, e0, e1, e2, e3, e4, hbr, hga, hne, fz, fa⟩ := hS.facts h R.hx
  have f0 := fa (t * 5)
  have f1 := fa (t * 5 + 1)
  have f2 := fa (t * 5 + 2)
  have f3 := fa (t * 5 + 3)
  have f4 := fa (t * 5 + 4)
  have g6 := fz 6
  have g7 := fz 7
  have g8 := fz 8
  clear fz fa
  obtain ⟨g, rfl, co, carg⟩ := hS.arg h R.hc c4
  rw [R.hk] at e0
  rw [hl] at e1
  have HS := Lib.hid hS
  have HH := Lib.hid h
  clear hl hS h
  unfold rptr
  go_enter Try.func98, Try.ntmps98
  go_wp2_with fail
  refine (ref_store W _ p m S F t 1 (x.t + 1) (by omega) (by have := R.len; have := R.room; omega) R.ntr HS.out HH.out).mono ?_
  clear c0 c1 c2 c3 c4 c5 c6 c7 c8 e0 e1 e2 e3 e4 f0 f1 f2 f3 f4 g6 g7 g8 hbr hga hne
  clear co carg
  rintro e w1 ⟨rfl, S1, s1, h1⟩
  have SH1 := Lib.hid s1
  have HH1 := Lib.hid h1
  clear s1 h1
  obtain ⟨wa, wc, ca, cc, ta, tc, c0, c1, c2, c3, c4, c5, c6, c7, c8, e0, e1, e2, e3, e4, hbr, hga, hne, fz, fa⟩ := SH1.out.facts HH1.out HX.out
  have f0 := fa (t * 5)
  have f1 := fa (t * 5 + 1)
  have f2 := fa (t * 5 + 2)
  have f3 := fa (t * 5 + 3)
  have f4 := fa (t * 5 + 4)
  have g6 := fz 6
  have g7 := fz 7
  have g8 := fz 8
  clear fz fa
  try dsimp only [DM.setTh, DM.dload, DM.dstore, DM.dswap] at c1 c6 c7 c8 e0 e1 e2 e3 e4
  rw [HL.out] at e1
  rw [R.hk] at e0
  obtain ⟨S2, s2, h2⟩ := SH1.out.setDown HH1.out (-1)
  have SH2 := Lib.hid s2
  have HH2 := Lib.hid h2
  clear s2 h2
  go_wp2_with fail
  generalize w1.setCell ⟨p.br, 7, none⟩ (.int .i64 (-1)) = v3 at *
  clear c0 c1 c2 c3 c4 c5 c6 c7 c8 e0 e1 e2 e3 e4 f0 f1 f2 f3 f4 g6 g7 g8 hbr hga hne
  obtain ⟨wa, wc, ca, cc, ta, tc, c0, c1, c2, c3, c4, c5, c6, c7, c8, e0, e1, e2, e3, e4, hbr, hga, hne, fz, fa⟩ := SH2.out.facts HH2.out HX.out
  have f0 := fa (t * 5)
  have f1 := fa (t * 5 + 1)
  have f2 := fa (t * 5 + 2)
  have f3 := fa (t * 5 + 3)
  have f4 := fa (t * 5 + 4)
  have g6 := fz 6
  have g7 := fz 7
  have g8 := fz 8
  clear fz fa
  try dsimp only [DM.setTh, DM.dload, DM.dstore, DM.dswap] at c1 c6 c7 c8 e0 e1 e2 e3 e4
  rw [HL.out] at e1
  rw [R.hk] at e0
  refine (ref_end W _ p { (m.dstore t 1 (x.t + 1)) with down := -1 } S2 F t x c k 2 x.v HX.out R.hk HC.out (by first | exact R.hn | (show (m.all.set t _).length ≤ 16; rw [List.length_set]; exact R.hn)) (by first | exact R.hnc | (show (m.calls.set k _).length ≤ 65536; rw [List.length_set]; exact R.hnc) | (show ((m.calls.set k _).set k _).length ≤ 65536; rw [List.length_set, List.length_set]; exact R.hnc)) SH2.out HH2.out).mono ?_
  clear c0 c1 c2 c3 c4 c5 c6 c7 c8 e0 e1 e2 e3 e4 f0 f1 f2 f3 f4 g6 g7 g8 hbr hga hne
  rintro e w4 ⟨rfl, S4, s4, h4⟩
  have SH4 := Lib.hid s4
  have HH4 := Lib.hid h4
  clear s4 h4
  go_wp2_with fail
  have Q : Hid (∃ S', RefAt p (m.take t x c) S' ∧ Holds W w4 (S' + F)) := by
    refine ⟨S4, ?_, HH4.out⟩
    have e : m.take t x c = (DM.fin { (m.dstore t 1 (x.t + 1)) with down := -1 } t x c 2 x.v) := by
      have ek := EK.out
      unfold DM.take
      rw [if_neg (by have := HL.out; omega), if_neg (by have := HL.out; omega), if_neg (by have := HL.out; omega), if_neg (by have := HL.out; omega), if_neg (by have := HL.out; omega), if_neg (by have := HL.out; omega), if_pos HL.out]
      try simp only [DM.fin, DM.dstore, ek]
    rw [e]; exact SH4.out
  first | (go_end0; exact ⟨rfl, Q.out⟩) | (refine bodyPost_ret (results_none rfl _ _ _) rfl ?_; exact ⟨rfl, Q.out⟩)

set_option maxHeartbeats 1000000 in
set_option maxRecDepth 100000 in
theorem ref_take_8 (R : RStep m t x c k) (hl : x.line = 8) (hb : (-1 ≤ x.b - 1 ∧ x.b ≤ 70000) ∧ 0 ≤ x.t ∧ x.t ≤ 70000) (hS : RefAt p m S) (h : Holds W w (S + F)) : Calls Try.prog 98 #[rptr p, .int .i64 (t : Int)] w (RfPost W p (m.take t x c) F (.tuple #[])) := by
  have htl : t < m.all.length := (List.getElem?_eq_some_iff.1 R.hx).1
  have hcl : k < m.calls.length := (List.getElem?_eq_some_iff.1 R.hc).1
  have z0 : (0 : Int) ≤ (t : Int) := by omega
  have z1 : (t : Int) < (m.all.length : Int) := by omega
  have z2 : (0 : Int) ≤ (k : Int) := by omega
  have z3 : (k : Int) < (m.calls.length : Int) := by omega
  have HL := Lib.hid hl
  have HX := Lib.hid R.hx
  have HC := Lib.hid R.hc
  have ek : x.call.toNat = k := by have := R.hk; omega
  have EK := Lib.hid ek
  clear ek
  have HB := Lib.hid hb
  clear hb
  have b0 : -1 ≤ x.b - 1 := HB.out.1.1
  have b1 : x.b ≤ 70000 := HB.out.1.2
  have b2 : 0 ≤ x.t := HB.out.2.1
  have b3 : x.t ≤ 70000 := HB.out.2.2
  obtain ⟨wa, wc, ca, cc, ta, tc, c0, c1, c2, c3, c4, c5, c6, c7, c8, e0, e1, e2, e3, e4, hbr, hga, hne, fz, fa⟩ := hS.facts h R.hx
  have f0 := fa (t * 5)
  have f1 := fa (t * 5 + 1)
  have f2 := fa (t * 5 + 2)
  have f3 := fa (t * 5 + 3)
  have f4 := fa (t * 5 + 4)
  have g6 := fz 6
  have g7 := fz 7
  have g8 := fz 8
  clear fz fa
  obtain ⟨g, rfl, co, carg⟩ := hS.arg h R.hc c4
  rw [R.hk] at e0
  rw [hl] at e1
  have HS := Lib.hid hS
  have HH := Lib.hid h
  clear hl hS h
  unfold rptr
  go_enter Try.func98, Try.ntmps98
  go_wp2_with fail
  refine (ref_store W _ p m S F t 1 (x.t + 1) (by omega) (by have := R.len; have := R.room; omega) R.ntr HS.out HH.out).mono ?_
  clear c0 c1 c2 c3 c4 c5 c6 c7 c8 e0 e1 e2 e3 e4 f0 f1 f2 f3 f4 g6 g7 g8 hbr hga hne
  clear co carg
  rintro e w1 ⟨rfl, S1, s1, h1⟩
  have SH1 := Lib.hid s1
  have HH1 := Lib.hid h1
  clear s1 h1
  obtain ⟨wa, wc, ca, cc, ta, tc, c0, c1, c2, c3, c4, c5, c6, c7, c8, e0, e1, e2, e3, e4, hbr, hga, hne, fz, fa⟩ := SH1.out.facts HH1.out HX.out
  have f0 := fa (t * 5)
  have f1 := fa (t * 5 + 1)
  have f2 := fa (t * 5 + 2)
  have f3 := fa (t * 5 + 3)
  have f4 := fa (t * 5 + 4)
  have g6 := fz 6
  have g7 := fz 7
  have g8 := fz 8
  clear fz fa
  try dsimp only [DM.setTh, DM.dload, DM.dstore, DM.dswap] at c1 c6 c7 c8 e0 e1 e2 e3 e4
  rw [HL.out] at e1
  rw [R.hk] at e0
  obtain ⟨S2, s2, h2⟩ := SH1.out.setDown HH1.out (-1)
  have SH2 := Lib.hid s2
  have HH2 := Lib.hid h2
  clear s2 h2
  go_wp2_with fail
  generalize w1.setCell ⟨p.br, 7, none⟩ (.int .i64 (-1)) = v3 at *
  clear c0 c1 c2 c3 c4 c5 c6 c7 c8 e0 e1 e2 e3 e4 f0 f1 f2 f3 f4 g6 g7 g8 hbr hga hne
  obtain ⟨wa, wc, ca, cc, ta, tc, c0, c1, c2, c3, c4, c5, c6, c7, c8, e0, e1, e2, e3, e4, hbr, hga, hne, fz, fa⟩ := SH2.out.facts HH2.out HX.out
  have f0 := fa (t * 5)
  have f1 := fa (t * 5 + 1)
  have f2 := fa (t * 5 + 2)
  have f3 := fa (t * 5 + 3)
  have f4 := fa (t * 5 + 4)
  have g6 := fz 6
  have g7 := fz 7
  have g8 := fz 8
  clear fz fa
  try dsimp only [DM.setTh, DM.dload, DM.dstore, DM.dswap] at c1 c6 c7 c8 e0 e1 e2 e3 e4
  rw [HL.out] at e1
  rw [R.hk] at e0
  refine (ref_end W _ p { (m.dstore t 1 (x.t + 1)) with down := -1 } S2 F t x c k 3 0 HX.out R.hk HC.out (by first | exact R.hn | (show (m.all.set t _).length ≤ 16; rw [List.length_set]; exact R.hn)) (by first | exact R.hnc | (show (m.calls.set k _).length ≤ 65536; rw [List.length_set]; exact R.hnc) | (show ((m.calls.set k _).set k _).length ≤ 65536; rw [List.length_set, List.length_set]; exact R.hnc)) SH2.out HH2.out).mono ?_
  clear c0 c1 c2 c3 c4 c5 c6 c7 c8 e0 e1 e2 e3 e4 f0 f1 f2 f3 f4 g6 g7 g8 hbr hga hne
  rintro e w4 ⟨rfl, S4, s4, h4⟩
  have SH4 := Lib.hid s4
  have HH4 := Lib.hid h4
  clear s4 h4
  go_wp2_with fail
  have Q : Hid (∃ S', RefAt p (m.take t x c) S' ∧ Holds W w4 (S' + F)) := by
    refine ⟨S4, ?_, HH4.out⟩
    have e : m.take t x c = (DM.fin { (m.dstore t 1 (x.t + 1)) with down := -1 } t x c 3 0) := by
      have ek := EK.out
      unfold DM.take
      rw [if_neg (by have := HL.out; omega), if_neg (by have := HL.out; omega), if_neg (by have := HL.out; omega), if_neg (by have := HL.out; omega), if_neg (by have := HL.out; omega), if_neg (by have := HL.out; omega), if_neg (by have := HL.out; omega)]
      try simp only [DM.fin, DM.dstore, ek]
    rw [e]; exact SH4.out
  first | (go_end0; exact ⟨rfl, Q.out⟩) | (refine bodyPost_ret (results_none rfl _ _ _) rfl ?_; exact ⟨rfl, Q.out⟩)

end

end Go.Proofs.Ythifeaigdobonaa

namespace Go.Proofs.Ythifeaigdobonaa
open Go.RowKit

section
variable (W w : World) (p : RSpot) (m : DM) (S F : Hp) (t : Nat) (x : Th) (c : ACall) (k : Nat)

set_option maxHeartbeats 1000000 in
set_option maxRecDepth 100000 in
theorem ref_take_5d (R : RStep m t x c k) (hl : x.line = 5) (hb : 0 ≤ x.b - 1 ∧ x.b ≤ 70000) (he : x.t < x.b - 1) (hS : RefAt p m S) (h : Holds W w (S + F)) : Calls Try.prog 98 #[rptr p, .int .i64 (t : Int)] w (RfPost W p (m.take t x c) F (.tuple #[])) := by
  have htl : t < m.all.length := (List.getElem?_eq_some_iff.1 R.hx).1
  have hcl : k < m.calls.length := (List.getElem?_eq_some_iff.1 R.hc).1
  have z0 : (0 : Int) ≤ (t : Int) := by omega
  have z1 : (t : Int) < (m.all.length : Int) := by omega
  have z2 : (0 : Int) ≤ (k : Int) := by omega
  have z3 : (k : Int) < (m.calls.length : Int) := by omega
  have HL := Lib.hid hl
  have HX := Lib.hid R.hx
  have HC := Lib.hid R.hc
  have ek : x.call.toNat = k := by have := R.hk; omega
  have EK := Lib.hid ek
  clear ek
  have HB := Lib.hid hb
  clear hb
  have hroom := R.room
  have q0 := Int.emod_nonneg (x.b - 1) (show m.room ≠ 0 by omega)
  have q1 := Int.emod_lt_of_pos (x.b - 1) (show 0 < m.room by omega)
  have HN : Hid (0 ≤ 2 + (x.b - 1) % m.room ∧ 2 + (x.b - 1) % m.room < (m.words.length : Int)) := ⟨by omega, by have := R.len; omega⟩
  have HMOD : Hid (Int.tmod (x.b - 1) m.room = (x.b - 1) % m.room) := Int.tmod_eq_emod_of_nonneg (by have := HB.out; omega)
  have HWR := Lib.hid (IntWalk.i64_in (2 + (x.b - 1) % m.room) (by omega))
  have hr0 : 0 < m.room := by omega
  have hrn : ¬ m.room = 0 := by omega
  have q2 : (x.b - 1) % m.room < 256 := by omega
  clear q1 hroom
  have b0 : 0 ≤ x.b - 1 := HB.out.1
  have b1 : x.b ≤ 70000 := HB.out.2
  have d : decide (x.t < x.b - 1) = true := decide_eq_true he
  have HE := Lib.hid he
  clear he
  obtain ⟨wa, wc, ca, cc, ta, tc, c0, c1, c2, c3, c4, c5, c6, c7, c8, e0, e1, e2, e3, e4, hbr, hga, hne, fz, fa⟩ := hS.facts h R.hx
  have f0 := fa (t * 5)
  have f1 := fa (t * 5 + 1)
  have f2 := fa (t * 5 + 2)
  have f3 := fa (t * 5 + 3)
  have f4 := fa (t * 5 + 4)
  have g6 := fz 6
  have g7 := fz 7
  have g8 := fz 8
  clear fz fa
  obtain ⟨g, rfl, co, carg⟩ := hS.arg h R.hc c4
  rw [R.hk] at e0
  rw [hl] at e1
  have HS := Lib.hid hS
  have HH := Lib.hid h
  clear hl hS h
  unfold rptr
  go_enter Try.func98, Try.ntmps98
  go_wp2_with fail
  refine (ref_load W _ p m S F t (2 + (x.b - 1) % m.room) (HN.out.1) (HN.out.2) R.ntr HS.out HH.out).mono ?_
  clear c0 c1 c2 c3 c4 c5 c6 c7 c8 e0 e1 e2 e3 e4 f0 f1 f2 f3 f4 g6 g7 g8 hbr hga hne
  clear co carg
  rintro e w1 ⟨rfl, S1, s1, h1⟩
  have SH1 := Lib.hid s1
  have HH1 := Lib.hid h1
  clear s1 h1
  obtain ⟨wa, wc, ca, cc, ta, tc, c0, c1, c2, c3, c4, c5, c6, c7, c8, e0, e1, e2, e3, e4, hbr, hga, hne, fz, fa⟩ := SH1.out.facts HH1.out HX.out
  have f0 := fa (t * 5)
  have f1 := fa (t * 5 + 1)
  have f2 := fa (t * 5 + 2)
  have f3 := fa (t * 5 + 3)
  have f4 := fa (t * 5 + 4)
  have g6 := fz 6
  have g7 := fz 7
  have g8 := fz 8
  clear fz fa
  try dsimp only [DM.setTh, DM.dload, DM.dstore, DM.dswap] at c1 c6 c7 c8 e0 e1 e2 e3 e4
  rw [HL.out] at e1
  rw [R.hk] at e0
  obtain ⟨S2, s2, h2⟩ := SH1.out.one HH1.out HX.out 4 (.int .i64 (wd m.words (2 + (x.b - 1) % m.room).toNat)) { x with v := (wd m.words (2 + (x.b - 1) % m.room).toNat) } (by decide) (by first | rfl | simp [encTh])
  have SH2 := Lib.hid s2
  have HH2 := Lib.hid h2
  clear s2 h2
  have hx2 : ((m.dload t (2 + (x.b - 1) % m.room)).setTh t { x with v := (wd m.words (2 + (x.b - 1) % m.room).toNat) }).all[t]? = some { x with v := (wd m.words (2 + (x.b - 1) % m.room).toNat) } := get_set HX.out _
  have HX2 := Lib.hid hx2
  clear hx2
  obtain ⟨S3, s3, h3⟩ := SH2.out.setDown HH2.out (-1)
  have SH3 := Lib.hid s3
  have HH3 := Lib.hid h3
  clear s3 h3
  go_wp2_with fail
  generalize (w1.setCell ⟨p.ga, t * 5 + 4, none⟩ (.int .i64 (wd m.words (2 + (x.b - 1) % m.room).toNat))).setCell ⟨p.br, 7, none⟩ (.int .i64 (-1)) = v4 at *
  clear c0 c1 c2 c3 c4 c5 c6 c7 c8 e0 e1 e2 e3 e4 f0 f1 f2 f3 f4 g6 g7 g8 hbr hga hne
  obtain ⟨wa, wc, ca, cc, ta, tc, c0, c1, c2, c3, c4, c5, c6, c7, c8, e0, e1, e2, e3, e4, hbr, hga, hne, fz, fa⟩ := SH3.out.facts HH3.out HX2.out
  have f0 := fa (t * 5)
  have f1 := fa (t * 5 + 1)
  have f2 := fa (t * 5 + 2)
  have f3 := fa (t * 5 + 3)
  have f4 := fa (t * 5 + 4)
  have g6 := fz 6
  have g7 := fz 7
  have g8 := fz 8
  clear fz fa
  try dsimp only [DM.setTh, DM.dload, DM.dstore, DM.dswap] at c1 c6 c7 c8 e0 e1 e2 e3 e4
  rw [HL.out] at e1
  rw [R.hk] at e0
  refine (ref_end W _ p { ((m.dload t (2 + (x.b - 1) % m.room)).setTh t { x with v := (wd m.words (2 + (x.b - 1) % m.room).toNat) }) with down := -1 } S3 F t { x with v := (wd m.words (2 + (x.b - 1) % m.room).toNat) } c k 2 (wd m.words (2 + (x.b - 1) % m.room).toNat) HX2.out R.hk HC.out (by first | exact R.hn | (show (m.all.set t _).length ≤ 16; rw [List.length_set]; exact R.hn)) (by first | exact R.hnc | (show (m.calls.set k _).length ≤ 65536; rw [List.length_set]; exact R.hnc) | (show ((m.calls.set k _).set k _).length ≤ 65536; rw [List.length_set, List.length_set]; exact R.hnc)) SH3.out HH3.out).mono ?_
  clear c0 c1 c2 c3 c4 c5 c6 c7 c8 e0 e1 e2 e3 e4 f0 f1 f2 f3 f4 g6 g7 g8 hbr hga hne
  rintro e w5 ⟨rfl, S5, s5, h5⟩
  have SH5 := Lib.hid s5
  have HH5 := Lib.hid h5
  clear s5 h5
  go_wp2_with fail
  have Q : Hid (∃ S', RefAt p (m.take t x c) S' ∧ Holds W w5 (S' + F)) := by
    refine ⟨S5, ?_, HH5.out⟩
    have e : m.take t x c = (DM.fin { ((m.dload t (2 + (x.b - 1) % m.room)).setTh t { x with v := (wd m.words (2 + (x.b - 1) % m.room).toNat) }) with down := -1 } t { x with v := (wd m.words (2 + (x.b - 1) % m.room).toNat) } c 2 (wd m.words (2 + (x.b - 1) % m.room).toNat)) := by
      have ek := EK.out
      unfold DM.take
      rw [if_neg (by have := HL.out; omega), if_neg (by have := HL.out; omega), if_neg (by have := HL.out; omega), if_neg (by have := HL.out; omega), if_pos HL.out, if_pos HE.out]
      try simp only [DM.fin, DM.setTh, DM.dload, List.set_set, ek]
    rw [e]; exact SH5.out
  first | (go_end0; exact ⟨rfl, Q.out⟩) | (refine bodyPost_ret (results_none rfl _ _ _) rfl ?_; exact ⟨rfl, Q.out⟩)

set_option maxHeartbeats 1000000 in
set_option maxRecDepth 100000 in
theorem ref_take_5o (R : RStep m t x c k) (hl : x.line = 5) (hb : 0 ≤ x.b - 1 ∧ x.b ≤ 70000) (he : ¬ x.t < x.b - 1) (hS : RefAt p m S) (h : Holds W w (S + F)) : Calls Try.prog 98 #[rptr p, .int .i64 (t : Int)] w (RfPost W p (m.take t x c) F (.tuple #[])) := by
  have htl : t < m.all.length := (List.getElem?_eq_some_iff.1 R.hx).1
  have hcl : k < m.calls.length := (List.getElem?_eq_some_iff.1 R.hc).1
  have z0 : (0 : Int) ≤ (t : Int) := by omega
  have z1 : (t : Int) < (m.all.length : Int) := by omega
  have z2 : (0 : Int) ≤ (k : Int) := by omega
  have z3 : (k : Int) < (m.calls.length : Int) := by omega
  have HL := Lib.hid hl
  have HX := Lib.hid R.hx
  have HC := Lib.hid R.hc
  have ek : x.call.toNat = k := by have := R.hk; omega
  have EK := Lib.hid ek
  clear ek
  have HB := Lib.hid hb
  clear hb
  have hroom := R.room
  have q0 := Int.emod_nonneg (x.b - 1) (show m.room ≠ 0 by omega)
  have q1 := Int.emod_lt_of_pos (x.b - 1) (show 0 < m.room by omega)
  have HN : Hid (0 ≤ 2 + (x.b - 1) % m.room ∧ 2 + (x.b - 1) % m.room < (m.words.length : Int)) := ⟨by omega, by have := R.len; omega⟩
  have HMOD : Hid (Int.tmod (x.b - 1) m.room = (x.b - 1) % m.room) := Int.tmod_eq_emod_of_nonneg (by have := HB.out; omega)
  have HWR := Lib.hid (IntWalk.i64_in (2 + (x.b - 1) % m.room) (by omega))
  have hr0 : 0 < m.room := by omega
  have hrn : ¬ m.room = 0 := by omega
  have q2 : (x.b - 1) % m.room < 256 := by omega
  clear q1 hroom
  have b0 : 0 ≤ x.b - 1 := HB.out.1
  have b1 : x.b ≤ 70000 := HB.out.2
  have d : decide (x.t < x.b - 1) = false := decide_eq_false he
  have HE := Lib.hid he
  clear he
  obtain ⟨wa, wc, ca, cc, ta, tc, c0, c1, c2, c3, c4, c5, c6, c7, c8, e0, e1, e2, e3, e4, hbr, hga, hne, fz, fa⟩ := hS.facts h R.hx
  have f0 := fa (t * 5)
  have f1 := fa (t * 5 + 1)
  have f2 := fa (t * 5 + 2)
  have f3 := fa (t * 5 + 3)
  have f4 := fa (t * 5 + 4)
  have g6 := fz 6
  have g7 := fz 7
  have g8 := fz 8
  clear fz fa
  obtain ⟨g, rfl, co, carg⟩ := hS.arg h R.hc c4
  rw [R.hk] at e0
  rw [hl] at e1
  have HS := Lib.hid hS
  have HH := Lib.hid h
  clear hl hS h
  unfold rptr
  go_enter Try.func98, Try.ntmps98
  go_wp2_with fail
  refine (ref_load W _ p m S F t (2 + (x.b - 1) % m.room) (HN.out.1) (HN.out.2) R.ntr HS.out HH.out).mono ?_
  clear c0 c1 c2 c3 c4 c5 c6 c7 c8 e0 e1 e2 e3 e4 f0 f1 f2 f3 f4 g6 g7 g8 hbr hga hne
  clear co carg
  rintro e w1 ⟨rfl, S1, s1, h1⟩
  have SH1 := Lib.hid s1
  have HH1 := Lib.hid h1
  clear s1 h1
  obtain ⟨wa, wc, ca, cc, ta, tc, c0, c1, c2, c3, c4, c5, c6, c7, c8, e0, e1, e2, e3, e4, hbr, hga, hne, fz, fa⟩ := SH1.out.facts HH1.out HX.out
  have f0 := fa (t * 5)
  have f1 := fa (t * 5 + 1)
  have f2 := fa (t * 5 + 2)
  have f3 := fa (t * 5 + 3)
  have f4 := fa (t * 5 + 4)
  have g6 := fz 6
  have g7 := fz 7
  have g8 := fz 8
  clear fz fa
  try dsimp only [DM.setTh, DM.dload, DM.dstore, DM.dswap] at c1 c6 c7 c8 e0 e1 e2 e3 e4
  rw [HL.out] at e1
  rw [R.hk] at e0
  obtain ⟨S2, s2, h2⟩ := SH1.out.one HH1.out HX.out 4 (.int .i64 (wd m.words (2 + (x.b - 1) % m.room).toNat)) { x with v := (wd m.words (2 + (x.b - 1) % m.room).toNat) } (by decide) (by first | rfl | simp [encTh])
  have SH2 := Lib.hid s2
  have HH2 := Lib.hid h2
  clear s2 h2
  have hx2 : ((m.dload t (2 + (x.b - 1) % m.room)).setTh t { x with v := (wd m.words (2 + (x.b - 1) % m.room).toNat) }).all[t]? = some { x with v := (wd m.words (2 + (x.b - 1) % m.room).toNat) } := get_set HX.out _
  have HX2 := Lib.hid hx2
  clear hx2
  obtain ⟨S3, s3, h3⟩ := SH2.out.one HH2.out HX2.out 1 (.int .i64 6) { x with v := (wd m.words (2 + (x.b - 1) % m.room).toNat), line := 6 } (by decide) (by first | rfl | simp [encTh])
  have SH3 := Lib.hid s3
  have HH3 := Lib.hid h3
  clear s3 h3
  have hx3 : (((m.dload t (2 + (x.b - 1) % m.room)).setTh t { x with v := (wd m.words (2 + (x.b - 1) % m.room).toNat) }).setTh t { x with v := (wd m.words (2 + (x.b - 1) % m.room).toNat), line := 6 }).all[t]? = some { x with v := (wd m.words (2 + (x.b - 1) % m.room).toNat), line := 6 } := get_set HX2.out _
  have HX3 := Lib.hid hx3
  clear hx3
  have Q : Hid (∃ S', RefAt p (m.take t x c) S' ∧ Holds W ((w1.setCell ⟨p.ga, t * 5 + 4, none⟩ (.int .i64 (wd m.words (2 + (x.b - 1) % m.room).toNat))).setCell ⟨p.ga, t * 5 + 1, none⟩ (.int .i64 6)) (S' + F)) := by
    refine ⟨S3, ?_, HH3.out⟩
    have e : m.take t x c = (((m.dload t (2 + (x.b - 1) % m.room)).setTh t { x with v := (wd m.words (2 + (x.b - 1) % m.room).toNat) }).setTh t { x with v := (wd m.words (2 + (x.b - 1) % m.room).toNat), line := 6 }) := by
      have ek := EK.out
      unfold DM.take
      rw [if_neg (by have := HL.out; omega), if_neg (by have := HL.out; omega), if_neg (by have := HL.out; omega), if_neg (by have := HL.out; omega), if_pos HL.out, if_neg (by have := HE.out; omega)]
      try simp only [DM.setTh, DM.dload, List.set_set]
    rw [e]; exact SH3.out
  go_wp2_with fail
  first | (go_end0; exact ⟨rfl, Q.out⟩) | (refine bodyPost_ret (results_none rfl _ _ _) rfl ?_; exact ⟨rfl, Q.out⟩)

end

end Go.Proofs.Ythifeaigdobonaa
