/- The reference's machine of the deque: a call refused, a call begun; Move whole. The reference's machine of the deque: Move whole. -/
import Derived.Test.YthifeaigdobonaaRfm
import Derived.StillTailTactics
import Derived.Test.YthifeaigdobonaaOrd
namespace Go.Proofs.Ythifeaigdobonaa
open Go.RowKit

/-- What the test of a call that is no step asks of an op and a thread. -/
theorem legal_cases (t : Nat) (op : Int) : (op = 92 ∧ DM.legal t op = true) ∨ (op ≠ 92 ∧ op = 90 ∧ t = 0 ∧ DM.legal t op = true) ∨ (op ≠ 92 ∧ op ≠ 90 ∧ op = 91 ∧ t = 0 ∧ DM.legal t op = true) ∨
    (op ≠ 92 ∧ op = 90 ∧ t ≠ 0 ∧ DM.legal t op = false) ∨ (op ≠ 92 ∧ op ≠ 90 ∧ op = 91 ∧ t ≠ 0 ∧ DM.legal t op = false) ∨ (op ≠ 92 ∧ op ≠ 90 ∧ op ≠ 91 ∧ DM.legal t op = false) := by
  unfold DM.legal
  by_cases h1 : op = 92
  · exact .inl ⟨h1, by simp [h1]⟩
  by_cases h2 : op = 90
  · by_cases h3 : t = 0
    · exact .inr (.inl ⟨h1, h2, h3, by simp [h2, h3]⟩)
    · exact .inr (.inr (.inr (.inl ⟨h1, h2, h3, by simp [h2]; omega⟩)))
  by_cases h4 : op = 91
  · by_cases h3 : t = 0
    · exact .inr (.inr (.inl ⟨h1, h2, h4, h3, by simp [h4, h3]⟩))
    · exact .inr (.inr (.inr (.inr (.inl ⟨h1, h2, h4, h3, by simp [h4]; omega⟩))))
  · exact .inr (.inr (.inr (.inr (.inr ⟨h1, h2, h4, by simp [h1, h2, h4]⟩))))

section
variable (W w : World) (p : RSpot) (m : DM) (S F : Hp) (t : Nat) (x : Th) (v : DM.Mv)

set_option maxHeartbeats 1000000 in
set_option maxRecDepth 100000 in
theorem ref_move_no (_hn : m.all.length ≤ 16) (hx : m.all[t]? = some x) (hv : v.thread = t) (hop : v.op ≠ 0) (hno : 0 ≤ x.call ∨ DM.legal t v.op = false) (hS : RefAt p m S) (h : Holds W w (S + F)) :
    Calls Try.prog 56 #[rptr p, mvArg v] w (RfPost W p m F (.bool false)) := by
  obtain ⟨wa, wc, ca, cc, ta, tc, c0, c1, c2, c3, c4, c5, c6, c7, c8, e0, e1, e2, e3, e4, hbr, hga, hne, fz, fa⟩ := hS.facts h hx
  have htl : t < m.all.length := (List.getElem?_eq_some_iff.1 hx).1
  have z0 : (0 : Int) ≤ (t : Int) := by omega
  have z1 : (t : Int) < (m.all.length : Int) := by omega
  have d0 : decide ((t : Int) < 0) = false := by simp
  have d1 : decide ((m.all.length : Int) ≤ (t : Int)) = false := decide_eq_false (by omega)
  have d2 : decide (m.all.length ≤ t) = false := decide_eq_false (by omega)
  have o0 : (v.op == 0) = false := by rw [beq_eq_false_iff_ne]; exact hop
  have hm : mvArg v = .agg #[.int .i64 (t : Int), .int .i64 v.op, .int .i64 v.arg, .int .i64 v.data] := by unfold mvArg; rw [hv]
  rw [hm]
  have HH : Hid (Holds W (w.alloc (.cells #[.int .i64 (t : Int), .int .i64 v.op, .int .i64 v.arg, .int .i64 v.data] 27 (0, 0))) (S + F)) := (h.alloc _).right
  have HS := Lib.hid hS
  have HN := Lib.hid hno
  have HOP := Lib.hid hop
  clear c1 c2 c4 c5 c6 c7 c8 fz fa hS h e1 e2 e3 e4 hx hv hm hno hop
  unfold rptr
  by_cases hb : 0 ≤ x.call
  · have e : decide (0 ≤ x.call) = true := decide_eq_true hb
    go_enter Try.func56, Try.ntmps56
    go_wp2_with fail
    go_ret
    exact ⟨rfl, S, HS.out, HH.out⟩
  · have e : decide (0 ≤ x.call) = false := decide_eq_false hb
    have hl : DM.legal t v.op = false := by rcases HN.out with h | h; exact absurd h hb; exact h
    clear hb
    rcases legal_cases t v.op with ⟨_, q⟩ | ⟨_, _, _, q⟩ | ⟨_, _, _, _, q⟩ | ⟨q1, q2, q3, _⟩ | ⟨q1, q2, q3, q4, _⟩ | ⟨q1, q2, q3, _⟩
    · rw [hl] at q; cases q
    · rw [hl] at q; cases q
    · rw [hl] at q; cases q
    all_goals
      have b1 : (v.op != 92) = true := by rw [bne_iff_ne]; omega
      first
        | (have b2 : (v.op != 90) = false := by simp; omega
           have b4 : ((t : Int) != 0) = true := by rw [bne_iff_ne]; omega
           clear q1 q2 q3 hl)
        | (have b2 : (v.op != 90) = true := by rw [bne_iff_ne]; omega
           have b3 : (v.op != 91) = false := by simp; omega
           have b4 : ((t : Int) != 0) = true := by rw [bne_iff_ne]; omega
           clear q1 q2 q3 hl)
        | (have b2 : (v.op != 90) = true := by rw [bne_iff_ne]; omega
           have b3 : (v.op != 91) = true := by rw [bne_iff_ne]; omega
           clear q1 q2 q3 hl)
      go_enter Try.func56, Try.ntmps56
      go_wp2_with fail
      go_ret
      exact ⟨rfl, S, HS.out, HH.out⟩

set_option maxHeartbeats 4000000 in
set_option maxRecDepth 100000 in
/-- What a begin does. -/
theorem ref_move_begin (hi : m.Inv) (hx : m.all[t]? = some x) (hb : x.call < 0) (hv : v.thread = t) (hop : v.op ≠ 0) (hl : DM.legal t v.op = true) (hS : RefAt p m S) (h : Holds W w (S + F)) :
    Calls Try.prog 56 #[rptr p, mvArg v] w (RfPost W p (m.begins t v.op v.arg v.data) F (.bool true)) := by
  have htl : t < m.all.length := (List.getElem?_eq_some_iff.1 hx).1
  have hn := hi.nth.2
  have hncl : (m.calls.length : Int) ≤ 65536 := by have := hi.ncalls; have := hi.mv; omega
  have z0 : (0 : Int) ≤ (t : Int) := by omega
  have z1 : (t : Int) < (m.all.length : Int) := by omega
  have d0 : decide ((t : Int) < 0) = false := by simp
  have d1 : decide ((m.all.length : Int) ≤ (t : Int)) = false := decide_eq_false (by omega)
  have d2 : decide (m.all.length ≤ t) = false := decide_eq_false (by omega)
  have o0 : (v.op == 0) = false := by rw [beq_eq_false_iff_ne]; exact hop
  have e : decide (0 ≤ x.call) = false := decide_eq_false (by omega)
  have hm : mvArg v = .agg #[.int .i64 (t : Int), .int .i64 v.op, .int .i64 v.arg, .int .i64 v.data] := by unfold mvArg; rw [hv]
  rw [hm]
  have facts : Hid ((v.op != 92) = false ∨ ((v.op != 92) = true ∧ (v.op != 90) = false ∧ ((t : Int) != 0) = false) ∨ ((v.op != 92) = true ∧ (v.op != 90) = true ∧ (v.op != 91) = false ∧ ((t : Int) != 0) = false)) := by
    rcases legal_cases t v.op with ⟨q, _⟩ | ⟨q1, q2, q3, _⟩ | ⟨q1, q2, q3, q4, _⟩ | ⟨_, _, _, q⟩ | ⟨_, _, _, _, q⟩ | ⟨_, _, _, q⟩
    · exact .inl (by simp [q])
    · exact .inr (.inl ⟨by rw [bne_iff_ne]; exact q1, by simp [q2], by simp [q3]⟩)
    · exact .inr (.inr ⟨by rw [bne_iff_ne]; exact q1, by rw [bne_iff_ne]; exact q2, by simp [q3], by simp [q4]⟩)
    all_goals rw [hl] at q; cases q
  obtain ⟨i0, hi0, hz0, hz1, hz2⟩ := info_parts infoCall
  have HX := Lib.hid hx
  have HS := Lib.hid hS
  have HH : Hid (Holds W (w.alloc (.cells #[.int .i64 (t : Int), .int .i64 v.op, .int .i64 v.arg, .int .i64 v.data] 27 (0, 0))) (pt w.heap.size (.cells #[.int .i64 (t : Int), .int .i64 v.op, .int .i64 v.arg, .int .i64 v.data] 27 (0, 0)) + (S + F))) := h.new w.heap.size rfl _
  obtain ⟨wa, wc, ca, cc, ta, tc, c0, c1, c2, c3, c4, c5, c6, c7, c8, e0, e1, e2, e3, e4, hbr, hga, hne, fz, fa⟩ := hS.facts h hx
  clear hl hx hS h hb hop hv hm hi c1 c2 c4 c5 c6 c7 c8 fz fa e1 e2 e3 e4
  unfold rptr
  rcases facts.out with b1 | ⟨b1, b2, b4⟩ | ⟨b1, b2, b3, b4⟩
  all_goals
    go_enter Try.func56, Try.ntmps56
    go_wp2_with fail
    generalize w.alloc (.cells #[.int .i64 (t : Int), .int .i64 v.op, .int .i64 v.arg, .int .i64 v.data] 27 (0, 0)) = w0 at *
    clear c0 c3 e0 hbr hga hne
    have HH1 : Hid (Holds W w0 (S + (pt w.heap.size (.cells #[.int .i64 (t : Int), .int .i64 v.op, .int .i64 v.arg, .int .i64 v.data] 27 (0, 0)) + F))) := HH.out.of_eq (by ac_rfl)
    obtain ⟨wa, wc, ca, cc, ta, tc, c0, c1, c2, c3, c4, c5, c6, c7, c8, e0, e1, e2, e3, e4, hbr, hga, hne, fz, fa⟩ := HS.out.facts (HH.out.of_eq (show _ = S + (pt w.heap.size (.cells #[.int .i64 (t : Int), .int .i64 v.op, .int .i64 v.arg, .int .i64 v.data] 27 (0, 0)) + F) by ac_rfl)) HX.out
    have f0 := fa (t * 5)
    have f1 := fa (t * 5 + 1)
    have f2 := fa (t * 5 + 2)
    have f3 := fa (t * 5 + 3)
    have f4 := fa (t * 5 + 4)
    clear fz fa c0 c1 c2 c5 c6 c7 c8 b1
    try clear b2
    try clear b3
    try clear b4
    go_still_tail 12, (by kernel_rfl)
    go_wp2_with fail
    obtain ⟨S1, s1, h1⟩ := HS.out.newTh HH1.out HX.out ⟨m.calls.length, 1, 0, 0, 0⟩
    have h1 := h1.drew
    dsimp only at h1
    generalize (((((w0.setCell ⟨p.ga, t * 5, none⟩ (.int .i64 (m.calls.length : Int))).setCell ⟨p.ga, t * 5 + 1, none⟩ (.int .i64 1)).setCell ⟨p.ga, t * 5 + 2, none⟩ (.int .i64 0)).setCell ⟨p.ga, t * 5 + 3, none⟩ (.int .i64 0)).setCell ⟨p.ga, t * 5 + 4, none⟩ (.int .i64 0)).drew = w1 at *
    clear c3 c4 e0 e1 e2 e3 e4 f0 f1 f2 f3 f4 hbr hga hne HH1
    have hq := h1.of_eq (show _ = pt w.heap.size (.cells #[.int .i64 (t : Int), .int .i64 v.op, .int .i64 v.arg, .int .i64 v.data] 27 (0, 0)) + (S1 + F) by ac_rfl)
    have q1 : w1.cell? ⟨w.heap.size, 1, none⟩ = some (.int .i64 v.op) := by rw [hq.cell]; rfl
    have q2 : w1.cell? ⟨w.heap.size, 2, none⟩ = some (.int .i64 v.arg) := by rw [hq.cell]; rfl
    have q3 : w1.cell? ⟨w.heap.size, 3, none⟩ = some (.int .i64 v.data) := by rw [hq.cell]; rfl
    obtain ⟨ca, cc, Sc, G, c4, c6, rc, h2, hbr, hout⟩ := s1.readyCall h1
    dsimp only [DM.setTh] at c4 c6 rc hout
    have H1 := Lib.hid h2
    have HO := Lib.hid @hout
    have HR := Lib.hid rc
    clear h1 h2 hq s1 rc hout
    have hHeld : w1.drew.cell? ⟨w.heap.size, 1, none⟩ = some (.int .i64 v.op) ∧ w1.drew.cell? ⟨w.heap.size, 2, none⟩ = some (.int .i64 v.arg) ∧ w1.drew.cell? ⟨w.heap.size, 3, none⟩ = some (.int .i64 v.data) ∧ w1.drew.cell? ⟨p.br, 4, none⟩ = some (.slice ca m.calls.length cc) ∧ w1.drew.cell? ⟨p.br, 6, none⟩ = some (.int .i64 m.moves) := ⟨q1, q2, q3, c4, c6⟩
    refine wp_region_z (fun w' => w'.cell? ⟨w.heap.size, 1, none⟩ = some (.int .i64 v.op) ∧ w'.cell? ⟨w.heap.size, 2, none⟩ = some (.int .i64 v.arg) ∧ w'.cell? ⟨w.heap.size, 3, none⟩ = some (.int .i64 v.data) ∧ w'.cell? ⟨p.br, 4, none⟩ = some (.slice ca m.calls.length cc) ∧ w'.cell? ⟨p.br, 6, none⟩ = some (.int .i64 m.moves)) 21 (by kernel_rfl) ?_
    refine wpAnyZ_take (i := 0) (v := ?_) rfl (by kernel_rfl) (by kernel_rfl) (by kernel_rfl) (by kernel_rfl) (fun _ _ _ h => h) (Or.inl ⟨by rfl, fun w hSw => ?_⟩) hHeld ?_
    case refine_2 => go_simp; rfl
    try simp only [Act.put, List.setIfInBounds_toArray]
    refine wpAnyZ_take (i := 1) (v := ?_) rfl (by kernel_rfl) (by kernel_rfl) (by kernel_rfl) (by kernel_rfl) (fun _ _ _ h => h) (Or.inl ⟨by rfl, fun w hSw => ?_⟩) hHeld ?_
    case refine_2 => go_simp; rfl
    try simp only [Act.put]
    refine wpAnyZ_take (i := 2) (v := ?_) rfl (by kernel_rfl) (by kernel_rfl) (by kernel_rfl) (by kernel_rfl) (fun _ _ _ h => h) (Or.inl ⟨by rfl, fun w hSw => ?_⟩) hHeld ?_
    case refine_2 => go_simp; rfl
    try simp only [Act.put]
    refine wpAnyZ_take (i := 3) (v := ?_) rfl (by kernel_rfl) (by kernel_rfl) (by kernel_rfl) (by kernel_rfl) (fun _ _ _ h => h) (Or.inl ⟨by rfl, fun w hSw => ?_⟩) hHeld ?_
    case refine_2 => go_simp; rfl
    try simp only [Act.put]
    refine wpAnyZ_take (i := 4) (v := ?_) rfl (by kernel_rfl) (by kernel_rfl) (by kernel_rfl) (by kernel_rfl) (fun _ _ _ h => h) (Or.inl ⟨by rfl, fun w hSw => ?_⟩) hHeld ?_
    case refine_2 => go_simp; rfl
    try simp only [Act.put]
    refine wpAnyZ_take (i := 5) (v := ?_) rfl (by kernel_rfl) (by kernel_rfl) (by kernel_rfl) (by kernel_rfl) (fun _ _ _ h => h) (Or.inl ⟨by rfl, fun w hSw => ?_⟩) hHeld ?_
    case refine_2 => go_simp; rfl
    try simp only [Act.put]
    refine wpAnyZ_take (i := 6) (v := ?_) rfl (by kernel_rfl) (by kernel_rfl) (by kernel_rfl) (by kernel_rfl) (fun _ _ _ h => h) (Or.inl ⟨by rfl, fun w hSw => ?_⟩) hHeld ?_
    case refine_2 => go_simp; rfl
    try simp only [Act.put]
    refine wpAnyZ_take (i := 7) (v := ?_) rfl (by kernel_rfl) (by kernel_rfl) (by kernel_rfl) (by kernel_rfl) (fun _ _ _ h => h) (Or.inl ⟨by rfl, fun w hSw => ?_⟩) hHeld ?_
    case refine_2 => go_simp; rfl
    try simp only [Act.put]
    refine wpAnyZ_take (i := 8) (v := ?_) rfl (by kernel_rfl) (by kernel_rfl) (by kernel_rfl) (by kernel_rfl) (fun _ _ _ h => h) (Or.inl ⟨by rfl, fun w hSw => ?_⟩) hHeld ?_
    case refine_2 => go_simp; rfl
    try simp only [Act.put]
    refine wpAnyZ_take (i := 9) (v := ?_) rfl (by kernel_rfl) (by kernel_rfl) (by kernel_rfl) (by kernel_rfl) (fun _ _ _ h => h) (Or.inl ⟨by rfl, fun w hSw => ?_⟩) hHeld ?_
    case refine_2 => go_simp; rfl
    try simp only [Act.put]
    refine wpAnyZ_take (i := 10) (v := ?_) rfl (by kernel_rfl) (by kernel_rfl) (by kernel_rfl) (by kernel_rfl) (fun _ _ _ h => h) (Or.inl ⟨by rfl, fun w hSw => ?_⟩) hHeld ?_
    case refine_2 => go_simp; rfl
    try simp only [Act.put]
    refine wpAnyZ_take (i := 11) (v := ?_) rfl (by kernel_rfl) (by kernel_rfl) (by kernel_rfl) (by kernel_rfl) (fun _ _ _ h => h) (Or.inl ⟨by rfl, fun w hSw => ?_⟩) hHeld ?_
    case refine_2 => go_simp; rfl
    try simp only [Act.put]
    refine wpAnyZ_take (i := 12) (v := ?_) rfl (by kernel_rfl) (by kernel_rfl) (by kernel_rfl) (by kernel_rfl) (fun _ _ _ h => h) (Or.inl ⟨by rfl, fun w hSw => ?_⟩) hHeld ?_
    case refine_2 => go_simp; rfl
    try simp only [Act.put]
    refine wpAnyZ_take (i := 13) (v := ?_) rfl (by kernel_rfl) (by kernel_rfl) (by kernel_rfl) (by kernel_rfl) (fun _ _ _ h => h) (Or.inl ⟨by rfl, fun w hSw => ?_⟩) hHeld ?_
    case refine_2 => go_simp; rfl
    try simp only [Act.put]
    refine wpAnyZ_take (i := 14) (v := ?_) rfl (by kernel_rfl) (by kernel_rfl) (by kernel_rfl) (by kernel_rfl) (fun _ _ _ h => h) (Or.inl ⟨by rfl, fun w hSw => ?_⟩) hHeld ?_
    case refine_2 => go_simp; rfl
    try simp only [Act.put]
    refine wpAnyZ_take (i := 15) (v := ?_) rfl (by kernel_rfl) (by kernel_rfl) (by kernel_rfl) (by kernel_rfl) (fun _ _ _ h => h) (Or.inl ⟨by rfl, fun w hSw => ?_⟩) hHeld ?_
    case refine_2 => go_simp; rfl
    try simp only [Act.put]
    refine wpAnyZ_take (i := 16) (v := ?_) rfl (by kernel_rfl) (by kernel_rfl) (by kernel_rfl) (by kernel_rfl) (fun _ _ _ h => h) (Or.inl ⟨by rfl, fun w hSw => ?_⟩) hHeld ?_
    case refine_2 => go_simp; rfl
    try simp only [Act.put]
    refine wpAnyZ_one (i := 17) (by kernel_rfl) rfl (fun K hK => ?_)
    go_simp
    refine hK _ _ (fun _ => ?_) (fun hHeld2 => ?_)
    · simp [*, World.cell?_alloc_some]
    have hHeld := hHeld2 (by decide)
    clear hK K hHeld2
    try simp only [Act.put, List.setIfInBounds_toArray, List.set_cons_zero, List.set_cons_succ]
    refine wpAnyZ_one (i := 18) (by kernel_rfl) rfl (fun K hK => ?_)
    refine step_append_one (W := W) (F := G + (pt w.heap.size (.cells #[.int .i64 (t : Int), .int .i64 v.op, .int .i64 v.arg, .int .i64 v.data] 27 (0, 0)) + F)) rfl (.tmp 72) (.tmp 85) 28 rfl 66 i0 _ 9 72 Try.underlying28 hi0 hz0 hz1 hz2 rfl (by decide) (.slice ca m.calls.length cc) m.calls.length (rows encCall m.calls) Sc rfl HR.out w1.heap.size 1 66 (encCall (callNew t v.op v.arg v.data m.moves)) rfl rfl (by simp [encCall, Value.oneCell']) (by unfold maxLen; omega) (by omega) (H1.out.new w1.heap.size rfl (.cells (encCall (callNew t v.op v.arg v.data m.moves)).toArray 66 (0, 0))).drew ?_
    intro g2 cap w2 S2 r1 r2
    obtain ⟨k1, k2, k3, k4⟩ := HO.out (callNew t v.op v.arg v.data m.moves) _ S2 r1 r2
    have K4 := Lib.hid k4
    have n0 := r2.of_eq (show _ = pt w.heap.size (.cells #[.int .i64 (t : Int), .int .i64 v.op, .int .i64 v.arg, .int .i64 v.data] 27 (0, 0)) + (S2 + (G + F)) from by ac_rfl)
    refine hK _ _ (fun _ => ⟨by rw [n0.cell]; rfl, by rw [n0.cell]; rfl, by rw [n0.cell]; rfl, k1, k2⟩) (fun hHeld2 => ?_)
    have hHeld := hHeld2 (by decide)
    clear hK K hHeld2 n0 r1 r2 k4
    try simp only [Act.put, List.setIfInBounds_toArray]
    refine wpAnyZ_one (i := 19) (by kernel_rfl) rfl (fun K hK => ?_)
    go_simp
    refine hK _ _ (fun _ => hHeld) (fun _ => ?_)
    clear hK K
    try simp only [Act.put, List.setIfInBounds_toArray, List.set_cons_zero, List.set_cons_succ]
    refine wpAnyZ_one (i := 20) (by kernel_rfl) rfl (fun K hK => ?_)
    go_simp
    refine hK _ _ (fun _ => hHeld) (fun _ => ?_)
    clear hK K
    try simp only [Act.put, List.setIfInBounds_toArray, List.set_cons_zero, List.set_cons_succ]
    refine wpAnyZ_one (i := 21) (by kernel_rfl) rfl (fun K hK => ?_)
    go_simp
    refine hK _ _ (fun h => absurd rfl h) (fun _ => ?_)
    clear hK K
    try simp only [Act.put, List.setIfInBounds_toArray, List.set_cons_zero, List.set_cons_succ]
    refine wpAnyZ_done (by kernel_rfl) ?_ _
    go_wp2_with fail
    go_ret
    obtain ⟨S', hS', h'⟩ := K4.out
    exact ⟨rfl, S', hS', (h'.of_eq (show _ = pt w.heap.size (.cells #[.int .i64 (t : Int), .int .i64 v.op, .int .i64 v.arg, .int .i64 v.data] 27 (0, 0)) + (S' + F) by ac_rfl)).right⟩
end

end Go.Proofs.Ythifeaigdobonaa

namespace Go.Proofs.Ythifeaigdobonaa
open Go.RowKit

theorem step_moves (m : DM) (t : Nat) : (m.step t).moves = m.moves := by
  unfold DM.step
  dsimp only
  split
  · unfold DM.push; split <;> (try split) <;> (try split) <;> (try split) <;> rfl
  split
  · unfold DM.take; repeat' (first | rfl | split)
  split
  · unfold DM.steal; repeat' (first | rfl | split)
  · rfl

theorem move0_moves (m : DM) (v : DM.Mv) : (m.move0 v).1.moves = m.moves := by
  unfold DM.move0
  repeat' (first | rfl | exact step_moves _ _ | split)

section
variable (W w : World) (p : RSpot) (m : DM) (S F : Hp) (v : DM.Mv)

theorem ref_move0 (hi : m.Inv) (hS : RefAt p m S) (h : Holds W w (S + F)) : Calls Try.prog 56 #[rptr p, mvArg v] w (RfPost W p (m.move0 v).1 F (.bool (m.move0 v).2)) := by
  by_cases ho : v.thread < 0 ∨ (m.all.length : Int) ≤ v.thread
  · have := ref_move_out W w p m S F v ho hi.nth.2 hS h
    rw [show m.move0 v = (m, false) by unfold DM.move0; rw [if_pos ho]]
    exact this
  obtain ⟨t, ht⟩ := Int.eq_ofNat_of_zero_le (show 0 ≤ v.thread by omega)
  have htl : t < m.all.length := by omega
  have hx : m.all[t]? = some m.all[t] := List.getElem?_eq_getElem htl
  generalize m.all[t] = x at hx
  have et : v.thread.toNat = t := by omega
  have hth : m.th t = x := DM.th_of hx
  by_cases hop : v.op = 0
  · have := ref_move_step W w p m S F t x v hi hx ht hop hS h
    by_cases hb : x.call < 0
    · rw [show m.move0 v = (m, false) by unfold DM.move0; rw [if_neg ho, if_pos hop, et, hth, if_pos hb]]
      rw [if_pos hb, show decide (0 ≤ x.call) = false from decide_eq_false (by omega)] at this
      exact this
    · rw [show m.move0 v = (m.step t, true) by unfold DM.move0; rw [if_neg ho, if_pos hop, et, hth, if_neg hb]]
      rw [if_neg hb, show decide (0 ≤ x.call) = true from decide_eq_true (by omega)] at this
      exact this
  · by_cases hno : 0 ≤ x.call ∨ DM.legal t v.op = false
    · have := ref_move_no W w p m S F t x v hi.nth.2 hx ht hop hno hS h
      rw [show m.move0 v = (m, false) by unfold DM.move0; rw [if_neg ho, if_neg hop, et, hth, ht, if_pos hno]]
      exact this
    · have := ref_move_begin W w p m S F t x v hi hx (by omega) ht hop (by cases hl : DM.legal t v.op; exact absurd (.inr hl) hno; rfl) hS h
      rw [show m.move0 v = (m.begins t v.op v.arg v.data, true) by unfold DM.move0; rw [if_neg ho, if_neg hop, et, hth, ht, if_neg hno]]
      exact this

set_option maxHeartbeats 1000000 in
set_option maxRecDepth 100000 in
theorem ref_mv (hi : m.Inv) (hS : RefAt p m S) (h : Holds W w (S + F)) : Calls Try.prog 20 #[rptr p, mvArg v] w (RfPost W p (m.move v).1 F (.bool (m.move v).2)) := by
  obtain ⟨wa, wc, ca, cc, ta, tc, c0, c1, c2, c3, c4, c5, c6, c7, c8, fz, hbr⟩ := hS.cells h
  have HI := Lib.hid hi
  have HS := Lib.hid hS
  have HH : Hid (Holds W (w.alloc (.cells #[.int .i64 v.thread, .int .i64 v.op, .int .i64 v.arg, .int .i64 v.data] 27 (0, 0))) (pt w.heap.size (.cells #[.int .i64 v.thread, .int .i64 v.op, .int .i64 v.arg, .int .i64 v.data] 27 (0, 0)) + (S + F))) := h.new w.heap.size rfl _
  have hmv := hi.mv
  unfold rptr mvArg
  clear hS h c0 c1 c2 c3 c4 c5 c7 c8 fz hi
  by_cases q : 65536 ≤ m.moves
  · have d : decide (65536 ≤ m.moves) = true := decide_eq_true q
    have E : Hid (m.move v = (m, false)) := by unfold Hid DM.move; rw [if_pos q]
    clear q
    go_enter Try.func20, Try.ntmps20
    go_wp2_with fail
    go_ret
    rw [E.out]
    exact ⟨rfl, S, HS.out, HH.out.right⟩
  · have d : decide (65536 ≤ m.moves) = false := decide_eq_false q
    have E : Hid (m.move v = ({ (m.move0 v).1 with moves := m.moves + 1 }, (m.move0 v).2)) := by unfold Hid DM.move; rw [if_neg q]
    go_enter Try.func20, Try.ntmps20
    go_wp2_with fail
    refine (ref_move0 W _ p m S (pt w.heap.size (.cells #[.int .i64 v.thread, .int .i64 v.op, .int .i64 v.arg, .int .i64 v.data] 27 (0, 0)) + F) v HI.out HS.out (HH.out.of_eq (by ac_rfl))).mono ?_
    rintro e w1 ⟨rfl, S1, s1, h1⟩
    clear c6 HH
    obtain ⟨wa, wc, ca, cc, ta, tc, c0, c1, c2, c3, c4, c5, c6, c7, c8, fz, hbr⟩ := s1.cells h1
    rw [move0_moves] at c6
    have f6 := fz 6
    obtain ⟨S2, s2, h2⟩ := s1.setMoves h1 (m.moves + 1)
    have K := Lib.hid h2
    have K2 := Lib.hid s2
    have hw : IntKind.i64.wrap (m.moves + 1) = m.moves + 1 := IntWalk.i64_in _ (by omega)
    clear s1 h1 s2 h2 c0 c1 c2 c3 c4 c5 c7 c8 fz
    go_wp2_with fail
    go_ret
    rw [E.out]
    exact ⟨rfl, S2, K2.out, (K.out.of_eq (show _ = pt w.heap.size (.cells #[.int .i64 v.thread, .int .i64 v.op, .int .i64 v.arg, .int .i64 v.data] 27 (0, 0)) + (S2 + F) by ac_rfl)).right⟩
end

end Go.Proofs.Ythifeaigdobonaa
