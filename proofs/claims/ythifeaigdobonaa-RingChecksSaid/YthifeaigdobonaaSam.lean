/- The laws' SameRun: of two runs with the same parts it is true. -/
import Derived.Test.YthifeaigdobonaaRup
import Derived.Laws.EntriesVeiled
import Derived.Deep.QuietTactic
import Derived.BigQuiet
import Derived.IntWalk
namespace Go.Proofs.Ythifeaigdobonaa
open Go.RowKit

theorem row_elem {α : Type} {W w : World} {S F : Hp} {e : TypeId} {size : Nat} {v : Value} {enc : α → List Value} {l : List α} (hr : RowAt e size v l.length (rows enc l) S) (h : Holds W w (S + F)) (hsz : ∀ x, (enc x).length = size) {k : Nat} {x : α} (hk : l[k]? = some x) :
    ∃ g cap, v = .slice (some ⟨g, 0, none⟩) l.length cap ∧ g < w.heap.size ∧ ∀ j, j < size → w.cell? ⟨g, k * size + j, none⟩ = (enc x)[j]? := by
  have hlt : k < l.length := (List.getElem?_eq_some_iff.1 hk).1
  obtain ⟨g, cap, rest, rfl, _, _, _, rfl⟩ := hr.some (by omega)
  exact ⟨g, cap, rfl, h.lt, fun j hj => by rw [h.cell]; exact arr_get hsz hk hj⟩

def encW (v : Int) : List Value := [.int .u64 v]
theorem u64s_rows (l : List Int) : u64s l = rows encW l := by
  unfold u64s rows encW
  induction l with
  | nil => rfl
  | cons a l ih => simp [ih]

def runCells (cv tv wv : Value) : Array Value := #[cv, tv, .slice none 0 0, wv]
def runO (cv tv wv : Value) : Obj := .cells #[cv, tv, .slice none 0 0, wv] 33 (0, 0)

set_option maxHeartbeats 2000000 in
set_option maxRecDepth 100000 in
theorem same_run (W w : World) (v1 v2 : Value) (calls : List ACall) (trace : List Acc) (words : List Int) (S1 S2 F : Hp) (hc : calls.length ≤ 100000) (ht : trace.length ≤ 100000) (hw : words.length ≤ 100000)
    (r1 : RunAt v1 calls trace words S1) (r2 : RunAt v2 calls trace words S2) (h : Holds W w (S1 + (S2 + F))) :
    Calls Try.prog 15 #[v1, v2] w fun e w' => e = .returned (.bool true) ∧ Holds W w' (S1 + (S2 + F)) := by
  obtain ⟨cv, tv, wv, Sc, St, Sw, rfl, p1, p2, p3, rfl⟩ := r1
  obtain ⟨cu, tu, wu, Tc, Tt, Tw, rfl, q1, q2, q3, rfl⟩ := r2
  rw [u64s_rows] at p3 q3
  obtain ⟨a1, n1, rfl⟩ := p1.form
  obtain ⟨a2, n2, rfl⟩ := p2.form
  obtain ⟨a3, n3, rfl⟩ := p3.form
  obtain ⟨b1, m1, rfl⟩ := q1.form
  obtain ⟨b2, m2, rfl⟩ := q2.form
  obtain ⟨b3, m3, rfl⟩ := q3.form
  have h1 := (h.new w.heap.size rfl (runO (.slice a1 calls.length n1) (.slice a2 trace.length n2) (.slice a3 words.length n3))).new (w.heap.size + 1) (by simp) (runO (.slice b1 calls.length m1) (.slice b2 trace.length m2) (.slice b3 words.length m3))
  obtain ⟨G, hG⟩ : ∃ G, pt (w.heap.size + 1) (runO (.slice b1 calls.length m1) (.slice b2 trace.length m2) (.slice b3 words.length m3)) + (pt w.heap.size (runO (.slice a1 calls.length n1) (.slice a2 trace.length n2) (.slice a3 words.length n3)) + (Sc + (St + Sw) + (Tc + (Tt + Tw) + F))) = G := ⟨_, rfl⟩
  have cells : ∀ wr, Holds W wr G → wr.cell? ⟨w.heap.size, 0, none⟩ = some (.slice a1 calls.length n1) ∧ wr.cell? ⟨w.heap.size, 1, none⟩ = some (.slice a2 trace.length n2) ∧ wr.cell? ⟨w.heap.size, 2, none⟩ = some (.slice none 0 0) ∧ wr.cell? ⟨w.heap.size, 3, none⟩ = some (.slice a3 words.length n3) ∧
      wr.cell? ⟨w.heap.size + 1, 0, none⟩ = some (.slice b1 calls.length m1) ∧ wr.cell? ⟨w.heap.size + 1, 1, none⟩ = some (.slice b2 trace.length m2) ∧ wr.cell? ⟨w.heap.size + 1, 2, none⟩ = some (.slice none 0 0) ∧ wr.cell? ⟨w.heap.size + 1, 3, none⟩ = some (.slice b3 words.length m3) := by
    intro wr k
    rw [← hG] at k
    have k2 := k.right
    unfold runO at k k2
    refine ⟨?_, ?_, ?_, ?_, ?_, ?_, ?_, ?_⟩ <;> first | (rw [k2.cell]; rfl) | (rw [k.cell]; rfl)
  rw [hG] at h1
  have HC := Lib.hid cells
  have HG := Lib.hid hG
  have H1 := Lib.hid h1
  have P1 := Lib.hid p1; have P2 := Lib.hid p2; have P3 := Lib.hid p3; have Q1 := Lib.hid q1; have Q2 := Lib.hid q2; have Q3 := Lib.hid q3
  have e1 := cells _ h1
  unfold runO at e1
  obtain ⟨x0, x1, x2, x3, y0, y1, y2, y3⟩ := e1
  clear p1 p2 p3 q1 q2 q3 h h1 cells hG
  unfold runO at H1
  go_enter Try.func15, Try.ntmps15
  go_wp2_with fail
  clear x0 x1 x2 x3 y0 y1 y2 y3
  go_loopw [5] (fun i wr => ∃ k : Nat, k ≤ calls.length ∧ i = .int .i64 k ∧ Holds W wr G) (fun i _ => calls.length - (intOf i).toNat)
  case atStart => exact ⟨0, Nat.zero_le _, rfl, H1.out⟩
  case round =>
    obtain ⟨k, hk, rfl, hh⟩ := hrel
    clear H1
    obtain ⟨x0, x1, x2, x3, y0, y1, y2, y3⟩ := HC.out _ hh
    by_cases hlt : k < calls.length
    · have hx := List.getElem?_eq_getElem hlt
      generalize (calls)[k] = c at hx
      have hh1 := hh; rw [← HG.out] at hh1
      obtain ⟨g1, cap1, e1, gl1, cc1⟩ := row_elem P1.out (hh1.of_eq (show _ = Sc + (pt (w.heap.size + 1) (runO (.slice b1 calls.length m1) (.slice b2 trace.length m2) (.slice b3 words.length m3)) + (pt w.heap.size (runO (.slice a1 calls.length n1) (.slice a2 trace.length n2) (.slice a3 words.length n3)) + ((St + Sw) + (Tc + (Tt + Tw) + F)))) by ac_rfl)) encCall_len hx
      obtain ⟨g2, cap2, e2, gl2, cc2⟩ := row_elem Q1.out (hh1.of_eq (show _ = Tc + (pt (w.heap.size + 1) (runO (.slice b1 calls.length m1) (.slice b2 trace.length m2) (.slice b3 words.length m3)) + (pt w.heap.size (runO (.slice a1 calls.length n1) (.slice a2 trace.length n2) (.slice a3 words.length n3)) + (Sc + (St + Sw) + ((Tt + Tw) + F)))) by ac_rfl)) encCall_len hx
      injection e1 with e1 _ e1'
      injection e2 with e2 _ e2'
      subst e1; subst e1'; subst e2; subst e2'
      have u0 := cc1 0 (by decide); have u1 := cc1 1 (by decide); have u2 := cc1 2 (by decide); have u3 := cc1 3 (by decide); have u4 := cc1 4 (by decide); have u5 := cc1 5 (by decide); have u6 := cc1 6 (by decide); have u7 := cc1 7 (by decide); have u8 := cc1 8 (by decide)
      have z0 := cc2 0 (by decide); have z1 := cc2 1 (by decide); have z2 := cc2 2 (by decide); have z3 := cc2 3 (by decide); have z4 := cc2 4 (by decide); have z5 := cc2 5 (by decide); have z6 := cc2 6 (by decide); have z7 := cc2 7 (by decide); have z8 := cc2 8 (by decide)
      simp only [encCall, List.getElem?_cons_zero, List.getElem?_cons_succ, Nat.add_zero] at u0 u1 u2 u3 u4 u5 u6 u7 u8 z0 z1 z2 z3 z4 z5 z6 z7 z8
      have HH : Hid (∀ nq, Holds W (wr.drewN nq) G) := fun nq => hh.drewN nq
      clear cc1 cc2 hh hh1 x1 x2 x3 y1 y2 y3 hx
      have b0 : (k : Int) < calls.length := by omega
      go_wp2_with fail
      go_quiet (fail)
      go_wp2_with fail
      go_roundw
      case rel => exact ⟨k + 1, by omega, by go_num, HH.out _⟩
      case measure => simp [intOf]; omega
    · have : k = calls.length := by omega
      subst this
      have H2 := Lib.hid hh
      clear hh
      go_wp2_with fail
      clear x0 x1 x2 x3 y0 y1 y2 y3
      go_loopw [6] (fun i wr => ∃ k : Nat, k ≤ trace.length ∧ i = .int .i64 k ∧ Holds W wr G) (fun i _ => trace.length - (intOf i).toNat)
      case atStart => exact ⟨0, Nat.zero_le _, rfl, H2.out⟩
      case round =>
        obtain ⟨k, hk, rfl, hh⟩ := hrel
        clear H2
        obtain ⟨x0, x1, x2, x3, y0, y1, y2, y3⟩ := HC.out _ hh
        by_cases hlt : k < trace.length
        · have hx := List.getElem?_eq_getElem hlt
          generalize (trace)[k] = c at hx
          have hh1 := hh; rw [← HG.out] at hh1
          obtain ⟨g1, cap1, e1, gl1, cc1⟩ := row_elem P2.out (hh1.of_eq (show _ = St + (pt (w.heap.size + 1) (runO (.slice b1 calls.length m1) (.slice b2 trace.length m2) (.slice b3 words.length m3)) + (pt w.heap.size (runO (.slice a1 calls.length n1) (.slice a2 trace.length n2) (.slice a3 words.length n3)) + ((Sc + Sw) + (Tc + (Tt + Tw) + F)))) by ac_rfl)) (fun _ => rfl) hx
          obtain ⟨g2, cap2, e2, gl2, cc2⟩ := row_elem Q2.out (hh1.of_eq (show _ = Tt + (pt (w.heap.size + 1) (runO (.slice b1 calls.length m1) (.slice b2 trace.length m2) (.slice b3 words.length m3)) + (pt w.heap.size (runO (.slice a1 calls.length n1) (.slice a2 trace.length n2) (.slice a3 words.length n3)) + (Sc + (St + Sw) + ((Tc + Tw) + F)))) by ac_rfl)) (fun _ => rfl) hx
          injection e1 with e1 _ e1'
          injection e2 with e2 _ e2'
          subst e1; subst e1'; subst e2; subst e2'
          have u0 := cc1 0 (by decide); have u1 := cc1 1 (by decide); have u2 := cc1 2 (by decide); have u3 := cc1 3 (by decide); have u4 := cc1 4 (by decide); have u5 := cc1 5 (by decide); have u6 := cc1 6 (by decide)
          have z0 := cc2 0 (by decide); have z1 := cc2 1 (by decide); have z2 := cc2 2 (by decide); have z3 := cc2 3 (by decide); have z4 := cc2 4 (by decide); have z5 := cc2 5 (by decide); have z6 := cc2 6 (by decide)
          simp only [encAcc, List.getElem?_cons_zero, List.getElem?_cons_succ, Nat.add_zero] at u0 u1 u2 u3 u4 u5 u6 z0 z1 z2 z3 z4 z5 z6
          have HH : Hid (∀ nq, Holds W (wr.drewN nq) G) := fun nq => hh.drewN nq
          clear cc1 cc2 hh hh1 x0 x2 x3 y0 y2 y3 hx
          have b0 : (k : Int) < trace.length := by omega
          go_wp2_with fail
          go_quiet (fail)
          go_wp2_with fail
          go_roundw
          case rel => exact ⟨k + 1, by omega, by go_num, HH.out _⟩
          case measure => simp [intOf]; omega
        · have : k = trace.length := by omega
          subst this
          have H3 := Lib.hid hh
          clear hh
          go_wp2_with fail
          obtain ⟨x0, x1, x2, x3, y0, y1, y2, y3⟩ := HC.out _ H3.out
          go_loopw [7] (fun i wr => i = .int .i64 0 ∧ Holds W wr G) (fun i _ => 0)
          case atStart => exact ⟨rfl, H3.out⟩
          case round =>
            obtain ⟨rfl, hh⟩ := hrel
            clear H3
            clear x0 x1 x2 x3 y0 y1 y2 y3
            obtain ⟨x0, x1, x2, x3, y0, y1, y2, y3⟩ := HC.out _ hh
            have H4 := Lib.hid hh
            clear hh
            go_wp2_with fail
            clear x0 x1 x2 x3 y0 y1 y2 y3
            go_loopw [8] (fun i wr => ∃ k : Nat, k ≤ words.length ∧ i = .int .i64 k ∧ Holds W wr G) (fun i _ => words.length - (intOf i).toNat)
            case atStart => exact ⟨0, Nat.zero_le _, rfl, H4.out⟩
            case round =>
              obtain ⟨k, hk, rfl, hh⟩ := hrel
              clear H4
              obtain ⟨x0, x1, x2, x3, y0, y1, y2, y3⟩ := HC.out _ hh
              by_cases hlt : k < words.length
              · have hx := List.getElem?_eq_getElem hlt
                generalize (words)[k] = c at hx
                have hh1 := hh; rw [← HG.out] at hh1
                obtain ⟨g1, cap1, e1, gl1, cc1⟩ := row_elem P3.out (hh1.of_eq (show _ = Sw + (pt (w.heap.size + 1) (runO (.slice b1 calls.length m1) (.slice b2 trace.length m2) (.slice b3 words.length m3)) + (pt w.heap.size (runO (.slice a1 calls.length n1) (.slice a2 trace.length n2) (.slice a3 words.length n3)) + ((Sc + St) + (Tc + (Tt + Tw) + F)))) by ac_rfl)) (fun _ => rfl) hx
                obtain ⟨g2, cap2, e2, gl2, cc2⟩ := row_elem Q3.out (hh1.of_eq (show _ = Tw + (pt (w.heap.size + 1) (runO (.slice b1 calls.length m1) (.slice b2 trace.length m2) (.slice b3 words.length m3)) + (pt w.heap.size (runO (.slice a1 calls.length n1) (.slice a2 trace.length n2) (.slice a3 words.length n3)) + (Sc + (St + Sw) + ((Tc + Tt) + F)))) by ac_rfl)) (fun _ => rfl) hx
                injection e1 with e1 _ e1'
                injection e2 with e2 _ e2'
                subst e1; subst e1'; subst e2; subst e2'
                have u0 := cc1 0 (by decide)
                have z0 := cc2 0 (by decide)
                simp only [encW, List.getElem?_cons_zero, Nat.add_zero, Nat.mul_one] at u0 z0
                have HH : Hid (∀ nq, Holds W (wr.drewN nq) G) := fun nq => hh.drewN nq
                clear cc1 cc2 hh hh1 x0 x1 x2 y0 y1 y2 hx
                have b0 : (k : Int) < words.length := by omega
                go_wp2_with fail
                go_quiet (fail)
                go_wp2_with fail
                go_roundw
                case rel => exact ⟨k + 1, by omega, by go_num, HH.out _⟩
                case measure => simp [intOf]; omega
              · have : k = words.length := by omega
                subst this
                have H5 := Lib.hid hh
                clear hh
                go_wp2_with fail
                go_ret
                exact ⟨rfl, by have := H5.out; rw [← HG.out] at this; exact (this.right.right).of_eq (by ac_rfl)⟩

end Go.Proofs.Ythifeaigdobonaa
