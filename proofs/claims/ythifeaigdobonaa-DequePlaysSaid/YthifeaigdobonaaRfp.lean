/- The reference's machine of the deque: a push's lines. The reference's machine of the deque: a push's other lines. -/
import Derived.Test.YthifeaigdobonaaRfa
import Derived.StillTailTactics
import Derived.IntWalk
namespace Go.Proofs.Ythifeaigdobonaa
open Go.RowKit

theorem setTh_setTh (m : DM) (t : Nat) (y z : Th) : (m.setTh t y).setTh t z = m.setTh t z := by unfold DM.setTh; simp

/-- All that a walk of a call reads. -/
theorem RefAt.facts {W w : World} {p : RSpot} {m : DM} {S F : Hp} (hS : RefAt p m S) (h : Holds W w (S + F)) {t : Nat} {x : Th} (hx : m.all[t]? = some x) :
    ∃ wa wc ca cc ta tc, w.cell? ⟨p.br, 0, none⟩ = some (.int .i64 (m.all.length : Int)) ∧ w.cell? ⟨p.br, 1, none⟩ = some (.int .i64 m.room) ∧ w.cell? ⟨p.br, 2, none⟩ = some (.slice wa m.words.length wc) ∧
      w.cell? ⟨p.br, 3, none⟩ = some (.slice (some ⟨p.ga, 0, none⟩) m.all.length p.cap) ∧ w.cell? ⟨p.br, 4, none⟩ = some (.slice ca m.calls.length cc) ∧ w.cell? ⟨p.br, 5, none⟩ = some (.slice ta m.trace.length tc) ∧
      w.cell? ⟨p.br, 6, none⟩ = some (.int .i64 m.moves) ∧ w.cell? ⟨p.br, 7, none⟩ = some (.int .i64 m.down) ∧ w.cell? ⟨p.br, 8, none⟩ = some (.int .i64 m.last) ∧
      w.cell? ⟨p.ga, t * 5, none⟩ = some (.int .i64 x.call) ∧ w.cell? ⟨p.ga, t * 5 + 1, none⟩ = some (.int .i64 x.line) ∧ w.cell? ⟨p.ga, t * 5 + 2, none⟩ = some (.int .i64 x.b) ∧ w.cell? ⟨p.ga, t * 5 + 3, none⟩ = some (.int .i64 x.t) ∧ w.cell? ⟨p.ga, t * 5 + 4, none⟩ = some (.int .i64 x.v) ∧
      p.br < w.heap.size ∧ p.ga < w.heap.size ∧ p.ga ≠ p.br ∧ (∀ i, w.frozen? ⟨p.br, i, none⟩ = false) ∧ (∀ i, w.frozen? ⟨p.ga, i, none⟩ = false) := by
  obtain ⟨wa, wc, ca, cc, ta, tc, c0, c1, c2, c3, c4, c5, c6, c7, c8, fz, hlt⟩ := hS.cells h
  obtain ⟨hth, hfa, hga, hne, _⟩ := hS.th h hx
  exact ⟨wa, wc, ca, cc, ta, tc, c0, c1, c2, c3, c4, c5, c6, c7, c8, hth 0 (by decide), hth 1 (by decide), hth 2 (by decide), hth 3 (by decide), hth 4 (by decide), hlt, hga, hne, fz, hfa⟩

theorem RefAt.one {W w : World} {p : RSpot} {m : DM} {S F : Hp} (hS : RefAt p m S) (h : Holds W w (S + F)) {t : Nat} {x : Th} (hx : m.all[t]? = some x) (j : Nat) (v : Value) (y : Th) (hj : j < 5) (he : (encTh x).set j v = encTh y) :
    ∃ S', RefAt p (m.setTh t y) S' ∧ Holds W (w.setCell ⟨p.ga, t * 5 + j, none⟩ v) (S' + F) := (hS.th h hx).2.2.2.2 j v y hj he

theorem RefAt.two {W w : World} {p : RSpot} {m : DM} {S F : Hp} (hS : RefAt p m S) (h : Holds W w (S + F)) {t : Nat} {x : Th} (hx : m.all[t]? = some x) (j : Nat) (v : Value) (y : Th) (hj : j < 5) (he : (encTh x).set j v = encTh y)
    (j2 : Nat) (v2 : Value) (z : Th) (hj2 : j2 < 5) (he2 : (encTh y).set j2 v2 = encTh z) : ∃ S', RefAt p (m.setTh t z) S' ∧ Holds W ((w.setCell ⟨p.ga, t * 5 + j, none⟩ v).setCell ⟨p.ga, t * 5 + j2, none⟩ v2) (S' + F) := by
  obtain ⟨S1, s1, h1⟩ := hS.one h hx j v y hj he
  have hx1 : (m.setTh t y).all[t]? = some y := get_set hx _
  obtain ⟨S2, s2, h2⟩ := s1.one h1 hx1 j2 v2 z hj2 he2
  rw [setTh_setTh] at s2
  exact ⟨S2, s2, h2⟩

/-- What holds of a thread's call where the reference makes a step. -/
structure RStep (m : DM) (t : Nat) (x : Th) (c : ACall) (k : Nat) : Prop where
  hx : m.all[t]? = some x
  hk : x.call = k
  hc : m.calls[k]? = some c
  hn : m.all.length ≤ 16
  hnc : m.calls.length ≤ 65536
  ntr : m.trace.length < 1048576
  len : (m.words.length : Int) = 2 + m.room
  room : 1 ≤ m.room ∧ m.room ≤ 256
  top : 0 ≤ wd m.words 0 ∧ wd m.words 0 ≤ 65536
  bot : -1 ≤ wd m.words 1 ∧ wd m.words 1 ≤ 65536
  mv : 0 ≤ m.moves ∧ m.moves ≤ 65536

/-- The argument of a thread's call. -/
theorem RefAt.arg {W w : World} {p : RSpot} {m : DM} {S F : Hp} (hS : RefAt p m S) (h : Holds W w (S + F)) {k : Nat} {c : ACall} (hc : m.calls[k]? = some c) {A : Option Addr} {n cap : Nat} (c4 : w.cell? ⟨p.br, 4, none⟩ = some (.slice A n cap)) :
    ∃ g, A = some ⟨g, 0, none⟩ ∧ w.cell? ⟨g, k * 9 + 1, none⟩ = some (.int .i64 c.op) ∧ w.cell? ⟨g, k * 9 + 2, none⟩ = some (.int .i64 c.arg) := by
  obtain ⟨g, hg, hcc, _⟩ := hS.call h hc
  exact ⟨g, hg _ _ _ c4, hcc 1 (by decide), hcc 2 (by decide)⟩

section
variable (W w : World) (p : RSpot) (m : DM) (S F : Hp) (t : Nat) (x : Th) (c : ACall) (k : Nat)

set_option maxHeartbeats 1000000 in
set_option maxRecDepth 100000 in
theorem ref_push_1 (R : RStep m t x c k) (hl : x.line = 1) (hS : RefAt p m S) (h : Holds W w (S + F)) : Calls Try.prog 97 #[rptr p, .int .i64 (t : Int)] w (RfPost W p (m.push t x c) F (.tuple #[])) := by
  obtain ⟨wa, wc, ca, cc, ta, tc, c0, c1, c2, c3, c4, c5, c6, c7, c8, e0, e1, e2, e3, e4, hbr, hga, hne, fz, fa⟩ := hS.facts h R.hx
  obtain ⟨g, rfl, co, carg⟩ := hS.arg h R.hc c4
  have htl : t < m.all.length := (List.getElem?_eq_some_iff.1 R.hx).1
  have hcl : k < m.calls.length := (List.getElem?_eq_some_iff.1 R.hc).1
  have z0 : (0 : Int) ≤ (t : Int) := by omega
  have z1 : (t : Int) < (m.all.length : Int) := by omega
  have z2 : (0 : Int) ≤ (k : Int) := by omega
  have z3 : (k : Int) < (m.calls.length : Int) := by omega
  rw [R.hk] at e0
  rw [hl] at e1
  have HL := Lib.hid hl
  have HS := Lib.hid hS
  have HH := Lib.hid h
  clear hl hS h fz fa c0 c1 c2 c5 c6 c7 c8 co e2 e3 e4
  unfold rptr
  go_enter Try.func97, Try.ntmps97
  go_wp2_with fail
  go_quiet (fail)
  go_wp2_with fail
  refine (ref_load W _ p m S F t 1 (by omega) (by have := R.len; have := R.room; omega) R.ntr HS.out (HH.out.drewN nq)).mono ?_
  rintro e w1 ⟨rfl, S1, s1, h1⟩
  obtain ⟨wa, wc, ca, cc, ta, tc, c0, c1, c2, c3, c4, c5, c6, c7, c8, e0, e1, e2, e3, e4, hbr, hga, hne, fz, fa⟩ := s1.facts h1 R.hx
  rw [HL.out] at e1
  have f1 := fa (t * 5 + 1)
  have f2 := fa (t * 5 + 2)
  have Q := Lib.hid (s1.two h1 R.hx 2 (.int .i64 (wd m.words 1)) { x with b := wd m.words 1 } (by decide) rfl 1 (.int .i64 2) { x with b := wd m.words 1, line := 2 } (by decide) rfl)
  clear s1 h1 fz fa c0 c1 c2 c3 c4 c5 c6 c7 c8 e0 e3 e4
  go_wp2_with fail
  go_end0
  rw [show m.push t x c = (m.dload t 1).setTh t { x with b := wd m.words 1, line := 2 } from by unfold DM.push; rw [if_pos HL.out]]
  exact ⟨rfl, Q.out⟩
end

end Go.Proofs.Ythifeaigdobonaa

namespace Go.Proofs.Ythifeaigdobonaa
open Go.RowKit

theorem fin_point (m : DM) (t : Nat) (y : Th) (c : ACall) (k : Nat) (v kind z : Int) (hk : y.call = k) : DM.fin { m with calls := m.calls.set k { c with point := v } } t y { c with point := v } kind z = m.fin t y { c with point := v } kind z := by
  have ek : y.call.toNat = k := by omega
  unfold DM.fin
  simp only [ek, List.set_set]
theorem fin_setTh (m : DM) (t : Nat) (y z : Th) (c : ACall) (kind v : Int) : (m.setTh t y).fin t z c kind v = m.fin t z c kind v := by
  unfold DM.fin DM.setTh
  simp only [List.set_set]

section
variable (W w : World) (p : RSpot) (m : DM) (S F : Hp) (t : Nat) (x : Th) (c : ACall) (k : Nat)

set_option maxHeartbeats 1000000 in
set_option maxRecDepth 100000 in
theorem ref_push_2 (R : RStep m t x c k) (hl : x.line = 2) (hb : x.b = wd m.words 1) (hS : RefAt p m S) (h : Holds W w (S + F)) : Calls Try.prog 97 #[rptr p, .int .i64 (t : Int)] w (RfPost W p (m.push t x c) F (.tuple #[])) := by
  obtain ⟨wa, wc, ca, cc, ta, tc, c0, c1, c2, c3, c4, c5, c6, c7, c8, e0, e1, e2, e3, e4, hbr, hga, hne, fz, fa⟩ := hS.facts h R.hx
  obtain ⟨g, rfl, co, carg⟩ := hS.arg h R.hc c4
  have htl : t < m.all.length := (List.getElem?_eq_some_iff.1 R.hx).1
  have hcl : k < m.calls.length := (List.getElem?_eq_some_iff.1 R.hc).1
  have z0 : (0 : Int) ≤ (t : Int) := by omega
  have z1 : (t : Int) < (m.all.length : Int) := by omega
  have z2 : (0 : Int) ≤ (k : Int) := by omega
  have z3 : (k : Int) < (m.calls.length : Int) := by omega
  rw [R.hk] at e0
  rw [hl] at e1
  have b0 : -1 ≤ x.b ∧ x.b ≤ 65536 := by rw [hb]; exact R.bot
  have b1 := R.top
  have HL := Lib.hid hl
  have HS := Lib.hid hS
  have HH := Lib.hid h
  have hsub : IntKind.i64.wrap (x.b - wd m.words 0) = x.b - wd m.words 0 := IntWalk.i64_in _ (by omega)
  have HSUB := Lib.hid hsub
  clear hl hS h fz fa c0 c1 c2 c5 c6 c7 c8 co e2 e3 e4 hsub hb b0 b1
  unfold rptr
  go_enter Try.func97, Try.ntmps97
  go_wp2_with fail
  go_quiet (fail)
  go_wp2_with fail
  refine (ref_load W _ p m S F t 0 (by omega) (by have := R.len; have := R.room; omega) R.ntr HS.out (HH.out.drewN nq)).mono ?_
  rintro e w1 ⟨rfl, S1, s1, h1⟩
  clear e0 e1 c3 c4 carg
  obtain ⟨S2, s2, h2⟩ := s1.one h1 R.hx 3 (.int .i64 (wd m.words 0)) { x with t := wd m.words 0 } (by decide) rfl
  have hx2 : ((m.dload t 0).setTh t { x with t := wd m.words 0 }).all[t]? = some { x with t := wd m.words 0 } := get_set R.hx _
  obtain ⟨_, _, _, _, _, _, _, _, _, _, _, _, _, _, _, _, _, _, e3, _, _, _, _, _, fa⟩ := s1.facts h1 R.hx
  have f3 := fa (t * 5 + 3)
  clear fa s1 h1
  go_wp2_with fail
  generalize w1.setCell ⟨p.ga, t * 5 + 3, none⟩ (.int .i64 (wd m.words 0)) = w2 at *
  clear e3 f3
  obtain ⟨wa, wc, ca, cc, ta, tc, c0, c1, c2, c3, c4, c5, c6, c7, c8, e0, e1, e2, e3, e4, hbr, hga, hne, fz, fa⟩ := s2.facts h2 hx2
  dsimp only [DM.setTh, DM.dload] at e0 e1 e2 e3 e4 c1 c6
  rw [HL.out] at e1
  have f1 := fa (t * 5 + 1)
  have hsub := HSUB.out
  by_cases hf : m.room ≤ x.b - wd m.words 0
  · have d : decide (m.room ≤ x.b - wd m.words 0) = true := by simp [hf]
    have HF := Lib.hid hf
    have S2' := Lib.hid s2
    have H2' := Lib.hid h2
    clear hf s2 h2 fz fa
    go_quiet (fail)
    clear hsub
    go_wp2_with fail
    refine (ref_point W _ p _ S2 F t { x with t := wd m.words 0 } c k m.moves hx2 R.hk R.hc (by show (m.all.set t _).length ≤ 16; simp; exact R.hn) R.hnc S2'.out (H2'.out.drewN _)).mono ?_
    rintro e w3 ⟨rfl, S3, s3, h3⟩
    have S3' := Lib.hid s3
    have H3' := Lib.hid h3
    clear s3 h3 c0 c1 c2 c3 c4 c5 c6 c7 c8 e0 e1 e2 e3 e4 f1
    go_wp2_with fail
    refine (ref_end W _ p { ((m.dload t 0).setTh t { x with t := wd m.words 0 }) with calls := m.calls.set k { c with point := m.moves } } S3 F t { x with t := wd m.words 0 } { c with point := m.moves } k 4 0 hx2 R.hk (get_set R.hc _) (by show (m.all.set t _).length ≤ 16; simp; exact R.hn) (by show (m.calls.set k _).length ≤ 65536; simp; exact R.hnc) S3'.out H3'.out).mono ?_
    rintro e w4 ⟨rfl, S4, s4, h4⟩
    have Q : Hid (∃ S', RefAt p (m.push t x c) S' ∧ Holds W w4 (S' + F)) := by
      refine ⟨S4, ?_, h4⟩
      have : m.push t x c = (m.dload t 0).fin t { x with t := wd m.words 0 } { c with point := m.moves } 4 0 := by unfold DM.push; rw [if_neg (by have := HL.out; omega), if_pos HL.out, if_pos HF.out]
      rw [this, ← fin_setTh _ t { x with t := wd m.words 0 }, ← fin_point _ t { x with t := wd m.words 0 } c k m.moves 4 0 R.hk]
      exact s4
    clear s4 h4
    go_wp2_with fail
    first | (go_end0; exact ⟨rfl, Q.out⟩) | (refine bodyPost_ret (results_none rfl _ _ _) rfl ?_; exact ⟨rfl, Q.out⟩)
  · have d : decide (m.room ≤ x.b - wd m.words 0) = false := by simp; omega
    have HF := Lib.hid hf
    have S2' := Lib.hid s2
    have H2' := Lib.hid h2
    clear hf s2 h2 fz fa
    go_quiet (fail)
    clear hsub
    obtain ⟨S3, s3, h3⟩ := S2'.out.one (H2'.out.drewN nq) hx2 1 (.int .i64 3) { x with t := wd m.words 0, line := 3 } (by decide) (by simp [encTh])
    have Q : Hid (∃ S', RefAt p (m.push t x c) S' ∧ Holds W ((w2.drewN nq).setCell ⟨p.ga, t * 5 + 1, none⟩ (.int .i64 3)) (S' + F)) := by
      refine ⟨S3, ?_, h3⟩
      rw [setTh_setTh] at s3
      have : m.push t x c = (m.dload t 0).setTh t { x with t := wd m.words 0, line := 3 } := by unfold DM.push; rw [if_neg (by have := HL.out; omega), if_pos HL.out, if_neg HF.out]
      rw [this]; exact s3
    clear s3 h3
    go_wp2_with fail
    go_end0
    exact ⟨rfl, Q.out⟩
end

end Go.Proofs.Ythifeaigdobonaa
