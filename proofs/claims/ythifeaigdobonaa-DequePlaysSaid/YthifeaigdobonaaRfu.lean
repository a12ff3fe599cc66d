/- The reference's machine of the deque: a push's last lines. -/
import Derived.Test.YthifeaigdobonaaRfp
import Derived.Deep.RegionHeld3
namespace Go.Proofs.Ythifeaigdobonaa
open Go.RowKit

section
variable (W w : World) (p : RSpot) (m : DM) (S F : Hp) (t : Nat) (x : Th) (c : ACall) (k : Nat)

set_option maxHeartbeats 1000000 in
set_option maxRecDepth 100000 in
theorem ref_push_3 (R : RStep m t x c k) (hl : x.line = 3) (hb : 0 ≤ x.b ∧ x.b ≤ 70000) (hS : RefAt p m S) (h : Holds W w (S + F)) : Calls Try.prog 97 #[rptr p, .int .i64 (t : Int)] w (RfPost W p (m.push t x c) F (.tuple #[])) := by
  have htl : t < m.all.length := (List.getElem?_eq_some_iff.1 R.hx).1
  have hcl : k < m.calls.length := (List.getElem?_eq_some_iff.1 R.hc).1
  have z0 : (0 : Int) ≤ (t : Int) := by omega
  have z1 : (t : Int) < (m.all.length : Int) := by omega
  have z2 : (0 : Int) ≤ (k : Int) := by omega
  have z3 : (k : Int) < (m.calls.length : Int) := by omega
  have HL := Lib.hid hl
  have HX := Lib.hid R.hx
  have HC := Lib.hid R.hc
  have ek : x.call.toNat = k := by have := R.hk; omega
  have EK := Lib.hid ek
  clear ek
  have HB := Lib.hid hb
  clear hb
  have hroom := R.room
  have q0 := Int.emod_nonneg (x.b) (show m.room ≠ 0 by omega)
  have q1 := Int.emod_lt_of_pos (x.b) (show 0 < m.room by omega)
  have HN : Hid (0 ≤ 2 + (x.b) % m.room ∧ 2 + (x.b) % m.room < (m.words.length : Int)) := ⟨by omega, by have := R.len; omega⟩
  have HMOD : Hid (Int.tmod (x.b) m.room = (x.b) % m.room) := Int.tmod_eq_emod_of_nonneg (by have := HB.out; omega)
  have HWR := Lib.hid (IntWalk.i64_in (2 + (x.b) % m.room) (by omega))
  have hr0 : 0 < m.room := by omega
  have hrn : ¬ m.room = 0 := by omega
  have q2 : (x.b) % m.room < 256 := by omega
  clear q1 hroom
  have b0 : 0 ≤ x.b := HB.out.1
  have b1 : x.b ≤ 70000 := HB.out.2
  have hmod := HMOD.out
  have hwr := HWR.out
  obtain ⟨wa, wc, ca, cc, ta, tc, c0, c1, c2, c3, c4, c5, c6, c7, c8, e0, e1, e2, e3, e4, hbr, hga, hne, fz, fa⟩ := hS.facts h R.hx
  have f0 := fa (t * 5)
  have f1 := fa (t * 5 + 1)
  have f2 := fa (t * 5 + 2)
  have f3 := fa (t * 5 + 3)
  have f4 := fa (t * 5 + 4)
  have g6 := fz 6
  have g7 := fz 7
  have g8 := fz 8
  clear fz fa
  obtain ⟨g, rfl, co, carg⟩ := hS.arg h R.hc c4
  rw [R.hk] at e0
  rw [hl] at e1
  have HS := Lib.hid hS
  have HH := Lib.hid h
  clear hl hS h
  unfold rptr
  go_enter Try.func97, Try.ntmps97
  go_wp2_with fail
  go_quiet (fail)
  have HH0 := Lib.hid (HH.out.drewN nq)
  generalize w.drewN nq = w0 at *
  clear c0 c1 c2 c3 c4 c5 c6 c7 c8 e0 e1 e2 e3 e4 f0 f1 f2 f3 f4 g6 g7 g8 hbr hga hne co carg
  obtain ⟨wa, wc, ca, cc, ta, tc, c0, c1, c2, c3, c4, c5, c6, c7, c8, e0, e1, e2, e3, e4, hbr, hga, hne, fz, fa⟩ := HS.out.facts HH0.out HX.out
  have f0 := fa (t * 5)
  have f1 := fa (t * 5 + 1)
  have f2 := fa (t * 5 + 2)
  have f3 := fa (t * 5 + 3)
  have f4 := fa (t * 5 + 4)
  have g6 := fz 6
  have g7 := fz 7
  have g8 := fz 8
  clear fz fa
  try dsimp only [DM.setTh, DM.dload, DM.dstore, DM.dswap] at c1 c6 c7 c8 e0 e1 e2 e3 e4
  rw [HL.out] at e1
  rw [R.hk] at e0
  go_wp2_with fail
  go_still_tail 14, (by kernel_rfl)
  clear hmod hwr
  go_wp2_with fail
  refine (ref_store W _ p m S F t (2 + x.b % m.room) c.arg (HN.out.1) (HN.out.2) R.ntr HS.out HH0.out.drew).mono ?_
  clear c0 c1 c2 c3 c4 c5 c6 c7 c8 e0 e1 e2 e3 e4 f0 f1 f2 f3 f4 g6 g7 g8 hbr hga hne
  rintro e w1 ⟨rfl, S1, s1, h1⟩
  have SH1 := Lib.hid s1
  have HH1 := Lib.hid h1
  clear s1 h1
  obtain ⟨wa, wc, ca, cc, ta, tc, c0, c1, c2, c3, c4, c5, c6, c7, c8, e0, e1, e2, e3, e4, hbr, hga, hne, fz, fa⟩ := SH1.out.facts HH1.out HX.out
  have f0 := fa (t * 5)
  have f1 := fa (t * 5 + 1)
  have f2 := fa (t * 5 + 2)
  have f3 := fa (t * 5 + 3)
  have f4 := fa (t * 5 + 4)
  have g6 := fz 6
  have g7 := fz 7
  have g8 := fz 8
  clear fz fa
  try dsimp only [DM.setTh, DM.dload, DM.dstore, DM.dswap] at c1 c6 c7 c8 e0 e1 e2 e3 e4
  rw [HL.out] at e1
  rw [R.hk] at e0
  obtain ⟨S2, s2, h2⟩ := SH1.out.one HH1.out HX.out 1 (.int .i64 4) { x with line := 4 } (by decide) (by first | rfl | simp [encTh])
  have SH2 := Lib.hid s2
  have HH2 := Lib.hid h2
  clear s2 h2
  have hx2 : ((m.dstore t (2 + x.b % m.room) c.arg).setTh t { x with line := 4 }).all[t]? = some { x with line := 4 } := get_set HX.out _
  have HX2 := Lib.hid hx2
  clear hx2
  have Q : Hid (∃ S', RefAt p (m.push t x c) S' ∧ Holds W (w1.setCell ⟨p.ga, t * 5 + 1, none⟩ (.int .i64 4)) (S' + F)) := by
    refine ⟨S2, ?_, HH2.out⟩
    have e : m.push t x c = ((m.dstore t (2 + x.b % m.room) c.arg).setTh t { x with line := 4 }) := by
      have ek := EK.out
      unfold DM.push
      rw [if_neg (by have := HL.out; omega), if_neg (by have := HL.out; omega), if_pos HL.out]
      try simp only [DM.fin, DM.point, DM.setTh, DM.dload, DM.dstore, DM.dswap, List.set_set, ek]
    rw [e]; exact SH2.out
  go_wp2_with fail
  first | (go_end0; exact ⟨rfl, Q.out⟩) | (refine bodyPost_ret (results_none rfl _ _ _) rfl ?_; exact ⟨rfl, Q.out⟩)

set_option maxHeartbeats 1000000 in
set_option maxRecDepth 100000 in
theorem ref_push_4 (R : RStep m t x c k) (hl : x.line = 4) (hb : 0 ≤ x.b ∧ x.b ≤ 70000) (hS : RefAt p m S) (h : Holds W w (S + F)) : Calls Try.prog 97 #[rptr p, .int .i64 (t : Int)] w (RfPost W p (m.push t x c) F (.tuple #[])) := by
  have htl : t < m.all.length := (List.getElem?_eq_some_iff.1 R.hx).1
  have hcl : k < m.calls.length := (List.getElem?_eq_some_iff.1 R.hc).1
  have z0 : (0 : Int) ≤ (t : Int) := by omega
  have z1 : (t : Int) < (m.all.length : Int) := by omega
  have z2 : (0 : Int) ≤ (k : Int) := by omega
  have z3 : (k : Int) < (m.calls.length : Int) := by omega
  have HL := Lib.hid hl
  have HX := Lib.hid R.hx
  have HC := Lib.hid R.hc
  have ek : x.call.toNat = k := by have := R.hk; omega
  have EK := Lib.hid ek
  clear ek
  have HB := Lib.hid hb
  clear hb
  have b0 : 0 ≤ x.b := HB.out.1
  have b1 : x.b ≤ 70000 := HB.out.2
  obtain ⟨wa, wc, ca, cc, ta, tc, c0, c1, c2, c3, c4, c5, c6, c7, c8, e0, e1, e2, e3, e4, hbr, hga, hne, fz, fa⟩ := hS.facts h R.hx
  have f0 := fa (t * 5)
  have f1 := fa (t * 5 + 1)
  have f2 := fa (t * 5 + 2)
  have f3 := fa (t * 5 + 3)
  have f4 := fa (t * 5 + 4)
  have g6 := fz 6
  have g7 := fz 7
  have g8 := fz 8
  clear fz fa
  obtain ⟨g, rfl, co, carg⟩ := hS.arg h R.hc c4
  rw [R.hk] at e0
  rw [hl] at e1
  have HS := Lib.hid hS
  have HH := Lib.hid h
  clear hl hS h
  unfold rptr
  go_enter Try.func97, Try.ntmps97
  go_wp2_with fail
  go_quiet (fail)
  have HH0 := Lib.hid (HH.out.drewN nq)
  generalize w.drewN nq = w0 at *
  clear c0 c1 c2 c3 c4 c5 c6 c7 c8 e0 e1 e2 e3 e4 f0 f1 f2 f3 f4 g6 g7 g8 hbr hga hne co carg
  obtain ⟨wa, wc, ca, cc, ta, tc, c0, c1, c2, c3, c4, c5, c6, c7, c8, e0, e1, e2, e3, e4, hbr, hga, hne, fz, fa⟩ := HS.out.facts HH0.out HX.out
  have f0 := fa (t * 5)
  have f1 := fa (t * 5 + 1)
  have f2 := fa (t * 5 + 2)
  have f3 := fa (t * 5 + 3)
  have f4 := fa (t * 5 + 4)
  have g6 := fz 6
  have g7 := fz 7
  have g8 := fz 8
  clear fz fa
  try dsimp only [DM.setTh, DM.dload, DM.dstore, DM.dswap] at c1 c6 c7 c8 e0 e1 e2 e3 e4
  rw [HL.out] at e1
  rw [R.hk] at e0
  go_wp2_with fail
  refine (ref_store W _ p m S F t 1 (x.b + 1) (by omega) (by have := R.len; have := R.room; omega) R.ntr HS.out HH0.out).mono ?_
  clear c0 c1 c2 c3 c4 c5 c6 c7 c8 e0 e1 e2 e3 e4 f0 f1 f2 f3 f4 g6 g7 g8 hbr hga hne
  rintro e w1 ⟨rfl, S1, s1, h1⟩
  have SH1 := Lib.hid s1
  have HH1 := Lib.hid h1
  clear s1 h1
  obtain ⟨wa, wc, ca, cc, ta, tc, c0, c1, c2, c3, c4, c5, c6, c7, c8, e0, e1, e2, e3, e4, hbr, hga, hne, fz, fa⟩ := SH1.out.facts HH1.out HX.out
  have f0 := fa (t * 5)
  have f1 := fa (t * 5 + 1)
  have f2 := fa (t * 5 + 2)
  have f3 := fa (t * 5 + 3)
  have f4 := fa (t * 5 + 4)
  have g6 := fz 6
  have g7 := fz 7
  have g8 := fz 8
  clear fz fa
  try dsimp only [DM.setTh, DM.dload, DM.dstore, DM.dswap] at c1 c6 c7 c8 e0 e1 e2 e3 e4
  rw [HL.out] at e1
  rw [R.hk] at e0
  go_wp2_with fail
  refine (ref_point W _ p (m.dstore t 1 (x.b + 1)) S1 F t x c k m.moves HX.out R.hk HC.out (by first | exact R.hn | (show (m.all.set t _).length ≤ 16; rw [List.length_set]; exact R.hn)) (by first | exact R.hnc | (show (m.calls.set k _).length ≤ 65536; rw [List.length_set]; exact R.hnc) | (show ((m.calls.set k _).set k _).length ≤ 65536; rw [List.length_set, List.length_set]; exact R.hnc)) SH1.out HH1.out).mono ?_
  clear c0 c1 c2 c3 c4 c5 c6 c7 c8 e0 e1 e2 e3 e4 f0 f1 f2 f3 f4 g6 g7 g8 hbr hga hne
  rintro e w2 ⟨rfl, S2, s2, h2⟩
  have SH2 := Lib.hid s2
  have HH2 := Lib.hid h2
  clear s2 h2
  obtain ⟨wa, wc, ca, cc, ta, tc, c0, c1, c2, c3, c4, c5, c6, c7, c8, e0, e1, e2, e3, e4, hbr, hga, hne, fz, fa⟩ := SH2.out.facts HH2.out HX.out
  have f0 := fa (t * 5)
  have f1 := fa (t * 5 + 1)
  have f2 := fa (t * 5 + 2)
  have f3 := fa (t * 5 + 3)
  have f4 := fa (t * 5 + 4)
  have g6 := fz 6
  have g7 := fz 7
  have g8 := fz 8
  clear fz fa
  try dsimp only [DM.setTh, DM.dload, DM.dstore, DM.dswap] at c1 c6 c7 c8 e0 e1 e2 e3 e4
  rw [HL.out] at e1
  rw [R.hk] at e0
  go_wp2_with fail
  refine (ref_end W _ p { (m.dstore t 1 (x.b + 1)) with calls := ((m.dstore t 1 (x.b + 1))).calls.set k { c with point := m.moves } } S2 F t x { c with point := m.moves } k 1 0 HX.out R.hk (get_set HC.out _) (by first | exact R.hn | (show (m.all.set t _).length ≤ 16; rw [List.length_set]; exact R.hn)) (by first | exact R.hnc | (show (m.calls.set k _).length ≤ 65536; rw [List.length_set]; exact R.hnc) | (show ((m.calls.set k _).set k _).length ≤ 65536; rw [List.length_set, List.length_set]; exact R.hnc)) SH2.out HH2.out).mono ?_
  clear c0 c1 c2 c3 c4 c5 c6 c7 c8 e0 e1 e2 e3 e4 f0 f1 f2 f3 f4 g6 g7 g8 hbr hga hne
  rintro e w3 ⟨rfl, S3, s3, h3⟩
  have SH3 := Lib.hid s3
  have HH3 := Lib.hid h3
  clear s3 h3
  go_wp2_with fail
  have Q : Hid (∃ S', RefAt p (m.push t x c) S' ∧ Holds W w3 (S' + F)) := by
    refine ⟨S3, ?_, HH3.out⟩
    have e : m.push t x c = (DM.fin { (m.dstore t 1 (x.b + 1)) with calls := ((m.dstore t 1 (x.b + 1))).calls.set k { c with point := m.moves } } t x { c with point := m.moves } 1 0) := by
      have ek := EK.out
      unfold DM.push
      rw [if_neg (by have := HL.out; omega), if_neg (by have := HL.out; omega), if_neg (by have := HL.out; omega)]
      try simp only [DM.fin, DM.dstore, List.set_set, ek]
    rw [e]; exact SH3.out
  first | (go_end0; exact ⟨rfl, Q.out⟩) | (refine bodyPost_ret (results_none rfl _ _ _) rfl ?_; exact ⟨rfl, Q.out⟩)

end

end Go.Proofs.Ythifeaigdobonaa
