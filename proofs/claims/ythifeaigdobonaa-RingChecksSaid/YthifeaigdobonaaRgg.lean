/- The ring's 'tickets' of a run in which an op got at most one. The ring's 'earlier' and 'through'. -/
import Derived.Test.YthifeaigdobonaaRgf
import Derived.Test.YthifeaigdobonaaOrd
namespace Go.Proofs.Ythifeaigdobonaa
open Go.RowKit

structure Tk where
  call : Int
  number : Int
  value : Int
  move : Int
def encTk (t : Tk) : List Value := [.int .i64 t.call, .int .i64 t.number, .int .i64 t.value, .int .i64 t.move]
theorem encTk_len (t : Tk) : (encTk t).length = 4 := rfl

def noAcc : Acc := ⟨0, 0, 0, 0, 0, 0, 0⟩
/-- The ticket of call number i, if it got one. -/
def tk1 (op addr : Int) (tr : List Acc) (i : Nat) (x : ACall) : Option Tk :=
  if x.op = op then (if hitIx x addr tr < 0 then none else some ⟨i, IntKind.i64.wrap (tr[(hitIx x addr tr).toNat]?.getD noAcc).old, if op = 101 then x.av else x.arg, (tr[(hitIx x addr tr).toNat]?.getD noAcc).move⟩) else none
def tixs (op addr : Int) (tr : List Acc) (calls : List ACall) (n : Nat) : List Tk := (List.range n).filterMap fun i => match calls[i]? with
  | some x => tk1 op addr tr i x
  | none => none
theorem tixs_succ {op addr : Int} {tr : List Acc} {calls : List ACall} {k : Nat} {x : ACall} (hx : calls[k]? = some x) : tixs op addr tr calls (k + 1) = tixs op addr tr calls k ++ (tk1 op addr tr k x).toList := by
  unfold tixs
  rw [List.range_succ, List.filterMap_append]
  congr 1
  simp only [List.filterMap_cons, hx, List.filterMap_nil]
  cases tk1 op addr tr k x <;> rfl

theorem hitIx_bound {x : ACall} {addr : Int} {tr : List Acc} (h : ¬ hitIx x addr tr < 0) : ∃ (k : Nat) (a : Acc), hitIx x addr tr = k ∧ tr[k]? = some a ∧ k < tr.length := by
  unfold hitIx at h ⊢
  rcases hf : tr.findIdx? (hit x addr) with _ | k
  · rw [hf] at h; exact absurd (by decide) h
  · obtain ⟨hlt, _⟩ := List.findIdx?_eq_some_iff_getElem.1 hf
    exact ⟨k, _, rfl, List.getElem?_eq_getElem hlt, hlt⟩

theorem infoTk : (Try.prog.info? 187).map (fun i => (i.zero, i.size, i.bytes)) = some (some (.agg #[.int .i64 0, .int .i64 0, .int .i64 0, .int .i64 0]), 4, 32) := by kernel_rfl

set_option maxHeartbeats 2000000 in
set_option maxRecDepth 100000 in
theorem tickets_at (W w : World) (v : Value) (calls : List ACall) (tr : List Acc) (words : List Int) (op addr : Int) (Sr F : Hp) (hc : calls.length ≤ 100000) (ht : tr.length ≤ 100000) (hone : (tixs op addr tr calls calls.length).length ≤ 1)
    (hr : RunAt v calls tr words Sr) (h : Holds W w (Sr + F)) :
    Calls Try.prog 79 #[v, .int .i64 op, .int .i64 addr] w fun e w' => ∃ v' S', e = .returned v' ∧ RowAt 187 4 v' (tixs op addr tr calls calls.length).length (rows encTk (tixs op addr tr calls calls.length)) S' ∧ Holds W w' (S' + (Sr + F)) := by
  obtain ⟨i0, hi, hz0, hz1, hz2⟩ := info_parts infoTk
  obtain ⟨cv, tv, wv, Sc, St, Sw, rfl, p1, p2, p3, rfl⟩ := hr
  obtain ⟨a1, n1, rfl⟩ := p1.form
  obtain ⟨a2, n2, rfl⟩ := p2.form
  obtain ⟨a3, n3, rfl⟩ := p3.form
  have h1 := (h.new w.heap.size rfl (runO (.slice a1 calls.length n1) (.slice a2 tr.length n2) (.slice a3 words.length n3))).new (w.heap.size + 1) (by simp) (.cells #[.int .i64 addr] 3 (0, 0))
  obtain ⟨b5, hb5⟩ : ∃ b5, b5 = w.heap.size + 1 := ⟨_, rfl⟩
  obtain ⟨b3, hb3⟩ : ∃ b3, b3 = w.heap.size := ⟨_, rfl⟩
  obtain ⟨G, hG⟩ : ∃ G, pt b5 (.cells #[.int .i64 addr] 3 (0, 0)) + (pt b3 (runO (.slice a1 calls.length n1) (.slice a2 tr.length n2) (.slice a3 words.length n3)) + (Sc + (St + Sw) + F)) = G := ⟨_, rfl⟩
  rw [← hb5, ← hb3, hG] at h1
  have HG := Lib.hid hG
  have H1 := Lib.hid h1
  have P1 := Lib.hid p1
  have P2 := Lib.hid p2
  have HO := Lib.hid hone
  have look : ∀ wr, Holds W wr G → wr.cell? ⟨b3, 0, none⟩ = some (.slice a1 calls.length n1) ∧ wr.cell? ⟨b3, 1, none⟩ = some (.slice a2 tr.length n2) := by
    intro wr k
    rw [← hG] at k
    have k2 := k.right
    unfold runO at k2
    exact ⟨by rw [k2.cell]; rfl, by rw [k2.cell]; rfl⟩
  have HLK := Lib.hid look
  clear h h1 p1 p2 p3 hG hone look
  unfold runO at H1
  go_enter Try.func79, Try.ntmps79
  go_upto_region 2 with fail
  rw [← hb5, ← hb3] at *
  have H2 : Hid (Holds W ((w.alloc (.cells #[.slice a1 calls.length n1, .slice a2 tr.length n2, .slice none 0 0, .slice a3 words.length n3] 33)).alloc (.cells #[.int .i64 addr] 3)) (emp + G)) := Lib.hid (H1.out.of_eq (Hp.emp_add G).symm)
  generalize (w.alloc (.cells #[.slice a1 calls.length n1, .slice a2 tr.length n2, .slice none 0 0, .slice a3 words.length n3] 33)).alloc (.cells #[.int .i64 addr] 3) = wa at H2 ⊢
  clear H1 hb5 hb3
  obtain ⟨c0, c1⟩ := HLK.out wa H2.out.right
  go_wp2_with fail
  clear c0 c1
  go_loopw [7, 8, 9, 10, 11, 15] (fun v7 _ _ _ _ i wr => ∃ k : Nat, k ≤ calls.length ∧ i = .int .i64 k ∧ ∃ Sv, RowAt 187 4 v7 (tixs op addr tr calls k).length (rows encTk (tixs op addr tr calls k)) Sv ∧ Holds W wr (Sv + G)) (fun _ _ _ _ _ i _ => calls.length - (intOf i).toNat)
  case atStart => exact ⟨0, Nat.zero_le _, rfl, emp, RowAt.nil _ _, H2.out⟩
  case round =>
    obtain ⟨k, hk, rfl, Sv, hv, hh⟩ := hrel
    clear H2
    obtain ⟨va, vc, rfl⟩ := hv.form
    have HV := Lib.hid hv
    clear hv
    by_cases hlt : k < calls.length
    · have hx := List.getElem?_eq_getElem hlt
      generalize calls[k] = x at hx
      have hh1 := hh; rw [← HG.out] at hh1
      obtain ⟨g1, cap1, e1, gl1, cc⟩ := row_elem P1.out (hh1.of_eq (show _ = Sc + (Sv + (pt b5 (.cells #[.int .i64 addr] 3 (0, 0)) + (pt b3 (runO (.slice a1 calls.length n1) (.slice a2 tr.length n2) (.slice a3 words.length n3)) + ((St + Sw) + F)))) by ac_rfl)) encCall_len hx
      injection e1 with e1 _ e1'
      subst e1; subst e1'
      have u0 := cc 0 (by decide); have u1 := cc 1 (by decide); have u2 := cc 2 (by decide); have u3 := cc 3 (by decide); have u4 := cc 4 (by decide); have u5 := cc 5 (by decide); have u6 := cc 6 (by decide); have u7 := cc 7 (by decide); have u8 := cc 8 (by decide)
      simp only [encCall, List.getElem?_cons_zero, List.getElem?_cons_succ, Nat.add_zero] at u0 u1 u2 u3 u4 u5 u6 u7 u8
      have b0 : (k : Int) < calls.length := by omega
      have hkb : (k : Int) ≤ 1000000 := by omega
      have HX := Lib.hid (tixs_succ (op := op) (addr := addr) (tr := tr) hx)
      have H3 := Lib.hid (hh.new wr.heap.size rfl (.cells (encCall x).toArray 66 (0, 0)))
      clear cc hh hh1 hx
      by_cases ho : x.op = op
      · subst ho
        go_upto_region 6 with fail
        obtain ⟨w2, hw2⟩ : ∃ w2, w2 = wr.alloc (.cells #[.int .i64 x.thread, .int .i64 x.op, .int .i64 x.arg, .int .i64 x.data, .int .i64 x.start, .int .i64 x.stop, .int .i64 x.point, .int .i64 x.ak, .int .i64 x.av] 66) := ⟨_, rfl⟩
        rw [← hw2]
        obtain ⟨B9, hB9⟩ : ∃ B9, B9 = wr.heap.size := ⟨_, rfl⟩
        rw [← hB9]
        have H4 : Hid (Holds W w2 (pt B9 (.cells (encCall x).toArray 66 (0, 0)) + (pt b5 (.cells #[.int .i64 addr] 3 (0, 0)) + (St + (pt b3 (runO (.slice (some ⟨g1, 0, none⟩) calls.length n1) (.slice a2 tr.length n2) (.slice a3 words.length n3)) + ((Sc + Sw + F) + Sv)))))) := by
          rw [hw2, hB9]
          have := H3.out
          rw [← HG.out] at this
          exact this.of_eq (by ac_rfl)
        obtain ⟨_, c1⟩ := HLK.out w2 (by have := H4.out; rw [← HG.out]; exact (this.of_eq (show _ = (pt B9 (.cells (encCall x).toArray 66 (0, 0)) + Sv) + (pt b5 (.cells #[.int .i64 addr] 3 (0, 0)) + (pt b3 (runO (.slice (some ⟨g1, 0, none⟩) calls.length n1) (.slice a2 tr.length n2) (.slice a3 words.length n3)) + (Sc + (St + Sw) + F))) by ac_rfl)).right)
        clear hw2 hB9 H3 u0 u1 u2 u3 u4 u5 u6 u7 u8
        go_wp2_with fail
        refine (index_at W w2 B9 b5 x addr _ tr St _ (by omega) P2.out H4.out).mono ?_
        rintro e w3 ⟨rfl, h6⟩
        clear H4 c1
        by_cases hneg : hitIx x addr tr < 0
        · have d : decide (hitIx x addr tr < 0) = true := decide_eq_true hneg
          have HE : Hid (tixs x.op addr tr calls (k + 1) = tixs x.op addr tr calls k) := by
            unfold Hid; rw [HX.out]; unfold tk1; rw [if_pos rfl, if_pos hneg]; simp
          have H6 : Hid (Holds W w3 (Sv + G)) := by
            rw [← HG.out]
            exact (h6.of_eq (show _ = pt B9 (.cells (encCall x).toArray 66 (0, 0)) + (Sv + (pt b5 (.cells #[.int .i64 addr] 3 (0, 0)) + (pt b3 (runO (.slice (some ⟨g1, 0, none⟩) calls.length n1) (.slice a2 tr.length n2) (.slice a3 words.length n3)) + (Sc + (St + Sw) + F)))) by ac_rfl)).right
          clear h6
          go_wp2_with fail
          go_roundw
          case rel => exact ⟨k + 1, by omega, by go_num, Sv, by rw [HE.out]; exact HV.out, H6.out⟩
          case measure => simp [intOf]; omega
        obtain ⟨k2, a, hk2, ha, hlt2⟩ := hitIx_bound hneg
        rw [hk2]
        have h7 : Holds W w3 (Sv + G) := by
          rw [← HG.out]
          exact (h6.of_eq (show _ = pt B9 (.cells (encCall x).toArray 66 (0, 0)) + (Sv + (pt b5 (.cells #[.int .i64 addr] 3 (0, 0)) + (pt b3 (runO (.slice (some ⟨g1, 0, none⟩) calls.length n1) (.slice a2 tr.length n2) (.slice a3 words.length n3)) + (Sc + (St + Sw) + F)))) by ac_rfl)).right
        obtain ⟨_, c1⟩ := HLK.out w3 h7.right
        have e2 : w3.cell? ⟨B9, 2, none⟩ = some (.int .i64 x.arg) := by rw [h6.cell]; rfl
        have e8 : w3.cell? ⟨B9, 8, none⟩ = some (.int .i64 x.av) := by rw [h6.cell]; rfl
        obtain ⟨g2, cap2, q1, gl2, cc2⟩ := row_elem P2.out (h6.of_eq (show _ = St + (pt B9 (.cells (encCall x).toArray 66 (0, 0)) + (pt b5 (.cells #[.int .i64 addr] 3 (0, 0)) + (pt b3 (runO (.slice (some ⟨g1, 0, none⟩) calls.length n1) (.slice a2 tr.length n2) (.slice a3 words.length n3)) + ((Sc + Sw + F) + Sv)))) by ac_rfl)) (fun _ => rfl) ha
        injection q1 with q1 _ q1'
        subst q1; subst q1'
        have z0 := cc2 0 (by decide); have z4 := cc2 4 (by decide)
        simp only [encAcc, List.getElem?_cons_zero, List.getElem?_cons_succ, Nat.add_zero] at z0 z4
        have lb3 := World.block_lt_of_cell? w3 _ c1
        have hsp : ∀ w4 S4, Holds W w4 (S4 + G) → w4.cell? ⟨b3, 1, none⟩ = some (.slice (some ⟨g2, 0, none⟩) tr.length n2) ∧ w4.cell? ⟨g2, k2 * 7 + 4, none⟩ = some (.int .u64 a.old) ∧ w4.cell? ⟨g2, k2 * 7, none⟩ = some (.int .i64 a.move) := by
          intro w4 S4 h9
          obtain ⟨_, d1⟩ := HLK.out w4 h9.right
          rw [← HG.out] at h9
          obtain ⟨g9, cap9, q9, _, cc9⟩ := row_elem P2.out (h9.of_eq (show _ = St + (S4 + (pt b5 (.cells #[.int .i64 addr] 3 (0, 0)) + (pt b3 (runO (.slice (some ⟨g1, 0, none⟩) calls.length n1) (.slice (some ⟨g2, 0, none⟩) tr.length n2) (.slice a3 words.length n3)) + (Sc + Sw + F)))) by ac_rfl)) (fun _ => rfl) ha
          injection q9 with q9 _ _
          injection q9 with q9
          injection q9 with q9
          subst q9
          exact ⟨d1, cc9 4 (by decide), cc9 0 (by decide)⟩
        have HSP := Lib.hid hsp
        have H7 := Lib.hid h7
        clear cc2 hneg hsp
        by_cases ho : x.op = 101
        · have d1 : (x.op == 101) = true := by simp [ho]
          have hadd : tixs x.op addr tr calls (k + 1) = tixs x.op addr tr calls k ++ [⟨k, IntKind.i64.wrap a.old, x.av, a.move⟩] := by
            rw [HX.out]
            unfold tk1
            rw [if_pos rfl, if_neg (by rw [hk2]; omega), if_pos ho, hk2, Int.toNat_natCast, ha]
            rfl
          have HADD := Lib.hid hadd
          have b7 : (k2 : Int) < tr.length := by omega
          have hone1 : (tixs x.op addr tr calls k).length ≤ 100000 := by
            unfold tixs
            exact Nat.le_trans (List.length_filterMap_le _ _) (by rw [List.length_range]; omega)
          clear hadd ha hk2 h6 h7
          generalize tixs x.op addr tr calls k = L at HADD HV hone1 ⊢
          clear ho
          go_upto_region 11 with fail
          clear e2 e8
          have hHeld : w3.drew.cell? ⟨b3, 1, none⟩ = some (.slice (some ⟨g2, 0, none⟩) tr.length n2) ∧ w3.drew.cell? ⟨g2, k2 * 7 + 4, none⟩ = some (.int .u64 a.old) ∧ w3.drew.cell? ⟨g2, k2 * 7, none⟩ = some (.int .i64 a.move) := ⟨c1, z4, z0⟩
          refine wp_region_z (fun w' => w'.cell? ⟨b3, 1, none⟩ = some (.slice (some ⟨g2, 0, none⟩) tr.length n2) ∧ w'.cell? ⟨g2, k2 * 7 + 4, none⟩ = some (.int .u64 a.old) ∧ w'.cell? ⟨g2, k2 * 7, none⟩ = some (.int .i64 a.move)) 20 (by kernel_rfl) ?_
          refine wpAnyZ_take (i := 0) (v := ?_) rfl (by kernel_rfl) (by kernel_rfl) (by kernel_rfl) (by kernel_rfl) (fun _ _ _ h => h) (Or.inl ⟨by rfl, fun w hSw => ?_⟩) hHeld ?_
          case refine_2 => go_simp; rfl
          try simp only [Act.put, List.setIfInBounds_toArray]
          refine wpAnyZ_take (i := 1) (v := ?_) rfl (by kernel_rfl) (by kernel_rfl) (by kernel_rfl) (by kernel_rfl) (fun _ _ _ h => h) (Or.inl ⟨by rfl, fun w hSw => ?_⟩) hHeld ?_
          case refine_2 => go_simp; rfl
          try simp only [Act.put]
          refine wpAnyZ_take (i := 2) (v := ?_) rfl (by kernel_rfl) (by kernel_rfl) (by kernel_rfl) (by kernel_rfl) (fun _ _ _ h => h) (Or.inl ⟨by rfl, fun w hSw => ?_⟩) hHeld ?_
          case refine_2 => go_simp; rfl
          try simp only [Act.put]
          refine wpAnyZ_take (i := 3) (v := ?_) rfl (by kernel_rfl) (by kernel_rfl) (by kernel_rfl) (by kernel_rfl) (fun _ _ _ h => h) (Or.inl ⟨by rfl, fun w hSw => ?_⟩) hHeld ?_
          case refine_2 => go_simp; rfl
          try simp only [Act.put]
          refine wpAnyZ_take (i := 4) (v := ?_) rfl (by kernel_rfl) (by kernel_rfl) (by kernel_rfl) (by kernel_rfl) (fun _ _ _ h => h) (Or.inl ⟨by rfl, fun w hSw => ?_⟩) hHeld ?_
          case refine_2 => go_simp; rfl
          try simp only [Act.put]
          refine wpAnyZ_take (i := 5) (v := ?_) rfl (by kernel_rfl) (by kernel_rfl) (by kernel_rfl) (by kernel_rfl) (fun _ _ _ h => h) (Or.inl ⟨by rfl, fun w hSw => ?_⟩) hHeld ?_
          case refine_2 => go_simp; rfl
          try simp only [Act.put]
          refine wpAnyZ_take (i := 6) (v := ?_) rfl (by kernel_rfl) (by kernel_rfl) (by kernel_rfl) (by kernel_rfl) (fun _ _ _ h => h) (Or.inl ⟨by rfl, fun w hSw => ?_⟩) hHeld ?_
          case refine_2 => go_simp; rfl
          try simp only [Act.put]
          refine wpAnyZ_take (i := 7) (v := ?_) rfl (by kernel_rfl) (by kernel_rfl) (by kernel_rfl) (by kernel_rfl) (fun _ _ _ h => h) (Or.inl ⟨by rfl, fun w hSw => ?_⟩) hHeld ?_
          case refine_2 => go_simp; rfl
          try simp only [Act.put]
          refine wpAnyZ_take (i := 8) (v := ?_) rfl (by kernel_rfl) (by kernel_rfl) (by kernel_rfl) (by kernel_rfl) (fun _ _ _ h => h) (Or.inl ⟨by rfl, fun w hSw => ?_⟩) hHeld ?_
          case refine_2 => go_simp; rfl
          try simp only [Act.put]
          refine wpAnyZ_take (i := 9) (v := ?_) rfl (by kernel_rfl) (by kernel_rfl) (by kernel_rfl) (by kernel_rfl) (fun _ _ _ h => h) (Or.inl ⟨by rfl, fun w hSw => ?_⟩) hHeld ?_
          case refine_2 => go_simp; rfl
          try simp only [Act.put]
          refine wpAnyZ_take (i := 10) (v := ?_) rfl (by kernel_rfl) (by kernel_rfl) (by kernel_rfl) (by kernel_rfl) (fun _ _ _ h => h) (Or.inl ⟨by rfl, fun w hSw => ?_⟩) hHeld ?_
          case refine_2 => go_simp; rfl
          try simp only [Act.put]
          refine wpAnyZ_take (i := 11) (v := ?_) rfl (by kernel_rfl) (by kernel_rfl) (by kernel_rfl) (by kernel_rfl) (fun _ _ _ h => h) (Or.inl ⟨by rfl, fun w hSw => ?_⟩) hHeld ?_
          case refine_2 => go_simp; rfl
          try simp only [Act.put]
          refine wpAnyZ_take (i := 12) (v := ?_) rfl (by kernel_rfl) (by kernel_rfl) (by kernel_rfl) (by kernel_rfl) (fun _ _ _ h => h) (Or.inl ⟨by rfl, fun w hSw => ?_⟩) hHeld ?_
          case refine_2 => go_simp; rfl
          try simp only [Act.put]
          refine wpAnyZ_take (i := 13) (v := ?_) rfl (by kernel_rfl) (by kernel_rfl) (by kernel_rfl) (by kernel_rfl) (fun _ _ _ h => h) (Or.inl ⟨by rfl, fun w hSw => ?_⟩) hHeld ?_
          case refine_2 => go_simp; rfl
          try simp only [Act.put]
          refine wpAnyZ_take (i := 14) (v := ?_) rfl (by kernel_rfl) (by kernel_rfl) (by kernel_rfl) (by kernel_rfl) (fun _ _ _ h => h) (Or.inl ⟨by rfl, fun w hSw => ?_⟩) hHeld ?_
          case refine_2 => go_simp; rfl
          try simp only [Act.put]
          refine wpAnyZ_take (i := 15) (v := ?_) rfl (by kernel_rfl) (by kernel_rfl) (by kernel_rfl) (by kernel_rfl) (fun _ _ _ h => h) (Or.inl ⟨by rfl, fun w hSw => ?_⟩) hHeld ?_
          case refine_2 => go_simp; rfl
          try simp only [Act.put]
          refine wpAnyZ_take (i := 16) (v := ?_) rfl (by kernel_rfl) (by kernel_rfl) (by kernel_rfl) (by kernel_rfl) (fun _ _ _ h => h) (Or.inl ⟨by rfl, fun w hSw => ?_⟩) hHeld ?_
          case refine_2 => go_simp; rfl
          try simp only [Act.put]
          refine wpAnyZ_take (i := 17) (v := ?_) rfl (by kernel_rfl) (by kernel_rfl) (by kernel_rfl) (by kernel_rfl) (fun _ _ _ h => h) (Or.inl ⟨by rfl, fun w hSw => ?_⟩) hHeld ?_
          case refine_2 => go_simp; rfl
          try simp only [Act.put]
          refine wpAnyZ_one (i := 18) (by kernel_rfl) rfl (fun K hK => ?_)
          go_simp
          refine hK _ _ (fun _ => ?_) (fun hHeld2 => ?_)
          · simp [*, World.cell?_alloc_some]
          have hHeld := hHeld2 (by decide)
          clear hK K hHeld2
          try simp only [Act.put, List.setIfInBounds_toArray, List.set_cons_zero, List.set_cons_succ]
          refine wpAnyZ_one (i := 19) (by kernel_rfl) rfl (fun K hK => ?_)
          refine step_append_one (W := W) (F := G) rfl (.tmp 37) (.tmp 55) 165 rfl 187 i0 _ 4 32 Try.underlying165 hi hz0 hz1 hz2 rfl (by decide) (.slice va L.length vc) L.length (rows encTk L) Sv rfl HV.out w3.heap.size 1 187 (encTk ⟨k, IntKind.i64.wrap a.old, x.av, a.move⟩) rfl rfl (by simp [encTk, Value.oneCell']) (by unfold maxLen; omega) (by omega) (H7.out.new w3.heap.size rfl (.cells (encTk ⟨k, IntKind.i64.wrap a.old, x.av, a.move⟩).toArray 187 (0, 0))).drew ?_
          intro g4 cap4 w4 S4 r1 r2
          have hS4 : w4.cell? ⟨b3, 1, none⟩ = some (.slice (some ⟨g2, 0, none⟩) tr.length n2) ∧ w4.cell? ⟨g2, k2 * 7 + 4, none⟩ = some (.int .u64 a.old) ∧ w4.cell? ⟨g2, k2 * 7, none⟩ = some (.int .i64 a.move) := HSP.out w4 S4 r2
          have R1 := Lib.hid r1
          have R2 := Lib.hid r2
          refine hK _ _ (fun _ => hS4) (fun _ => ?_)
          clear hK K r1 r2 hHeld
          try simp only [Act.put, List.setIfInBounds_toArray]
          refine wpAnyZ_one (i := 20) (by kernel_rfl) rfl (fun K hK => ?_)
          go_simp
          refine hK _ _ (fun h => absurd rfl h) (fun _ => ?_)
          clear hK K
          try simp only [Act.put, List.setIfInBounds_toArray, List.set_cons_zero, List.set_cons_succ]
          refine wpAnyZ_done (by kernel_rfl) ?_ _
          go_wp2_with fail
          go_roundw
          case rel => exact ⟨k + 1, by omega, by go_num, S4, by rw [HADD.out, List.length_append, show rows encTk (L ++ [⟨k, IntKind.i64.wrap a.old, x.av, a.move⟩]) = rows encTk L ++ encTk ⟨k, IntKind.i64.wrap a.old, x.av, a.move⟩ from by simp [rows]]; exact R1.out, R2.out⟩
          case measure => simp [intOf]; omega
        · have d1 : decide (x.op = 101) = false := decide_eq_false ho
          have hadd : tixs x.op addr tr calls (k + 1) = tixs x.op addr tr calls k ++ [⟨k, IntKind.i64.wrap a.old, x.arg, a.move⟩] := by
            rw [HX.out]
            unfold tk1
            rw [if_pos rfl, if_neg (by rw [hk2]; omega), if_neg ho, hk2, Int.toNat_natCast, ha]
            rfl
          have HADD := Lib.hid hadd
          have b7 : (k2 : Int) < tr.length := by omega
          have hone1 : (tixs x.op addr tr calls k).length ≤ 100000 := by
            unfold tixs
            exact Nat.le_trans (List.length_filterMap_le _ _) (by rw [List.length_range]; omega)
          clear hadd ha hk2 h6 h7
          generalize tixs x.op addr tr calls k = L at HADD HV hone1 ⊢
          go_upto_region 11 with fail
          clear e2 e8 ho
          have hHeld : w3.drew.cell? ⟨b3, 1, none⟩ = some (.slice (some ⟨g2, 0, none⟩) tr.length n2) ∧ w3.drew.cell? ⟨g2, k2 * 7 + 4, none⟩ = some (.int .u64 a.old) ∧ w3.drew.cell? ⟨g2, k2 * 7, none⟩ = some (.int .i64 a.move) := ⟨c1, z4, z0⟩
          refine wp_region_z (fun w' => w'.cell? ⟨b3, 1, none⟩ = some (.slice (some ⟨g2, 0, none⟩) tr.length n2) ∧ w'.cell? ⟨g2, k2 * 7 + 4, none⟩ = some (.int .u64 a.old) ∧ w'.cell? ⟨g2, k2 * 7, none⟩ = some (.int .i64 a.move)) 20 (by kernel_rfl) ?_
          refine wpAnyZ_take (i := 0) (v := ?_) rfl (by kernel_rfl) (by kernel_rfl) (by kernel_rfl) (by kernel_rfl) (fun _ _ _ h => h) (Or.inl ⟨by rfl, fun w hSw => ?_⟩) hHeld ?_
          case refine_2 => go_simp; rfl
          try simp only [Act.put, List.setIfInBounds_toArray]
          refine wpAnyZ_take (i := 1) (v := ?_) rfl (by kernel_rfl) (by kernel_rfl) (by kernel_rfl) (by kernel_rfl) (fun _ _ _ h => h) (Or.inl ⟨by rfl, fun w hSw => ?_⟩) hHeld ?_
          case refine_2 => go_simp; rfl
          try simp only [Act.put]
          refine wpAnyZ_take (i := 2) (v := ?_) rfl (by kernel_rfl) (by kernel_rfl) (by kernel_rfl) (by kernel_rfl) (fun _ _ _ h => h) (Or.inl ⟨by rfl, fun w hSw => ?_⟩) hHeld ?_
          case refine_2 => go_simp; rfl
          try simp only [Act.put]
          refine wpAnyZ_take (i := 3) (v := ?_) rfl (by kernel_rfl) (by kernel_rfl) (by kernel_rfl) (by kernel_rfl) (fun _ _ _ h => h) (Or.inl ⟨by rfl, fun w hSw => ?_⟩) hHeld ?_
          case refine_2 => go_simp; rfl
          try simp only [Act.put]
          refine wpAnyZ_take (i := 4) (v := ?_) rfl (by kernel_rfl) (by kernel_rfl) (by kernel_rfl) (by kernel_rfl) (fun _ _ _ h => h) (Or.inl ⟨by rfl, fun w hSw => ?_⟩) hHeld ?_
          case refine_2 => go_simp; rfl
          try simp only [Act.put]
          refine wpAnyZ_take (i := 5) (v := ?_) rfl (by kernel_rfl) (by kernel_rfl) (by kernel_rfl) (by kernel_rfl) (fun _ _ _ h => h) (Or.inl ⟨by rfl, fun w hSw => ?_⟩) hHeld ?_
          case refine_2 => go_simp; rfl
          try simp only [Act.put]
          refine wpAnyZ_take (i := 6) (v := ?_) rfl (by kernel_rfl) (by kernel_rfl) (by kernel_rfl) (by kernel_rfl) (fun _ _ _ h => h) (Or.inl ⟨by rfl, fun w hSw => ?_⟩) hHeld ?_
          case refine_2 => go_simp; rfl
          try simp only [Act.put]
          refine wpAnyZ_take (i := 7) (v := ?_) rfl (by kernel_rfl) (by kernel_rfl) (by kernel_rfl) (by kernel_rfl) (fun _ _ _ h => h) (Or.inl ⟨by rfl, fun w hSw => ?_⟩) hHeld ?_
          case refine_2 => go_simp; rfl
          try simp only [Act.put]
          refine wpAnyZ_take (i := 8) (v := ?_) rfl (by kernel_rfl) (by kernel_rfl) (by kernel_rfl) (by kernel_rfl) (fun _ _ _ h => h) (Or.inl ⟨by rfl, fun w hSw => ?_⟩) hHeld ?_
          case refine_2 => go_simp; rfl
          try simp only [Act.put]
          refine wpAnyZ_take (i := 9) (v := ?_) rfl (by kernel_rfl) (by kernel_rfl) (by kernel_rfl) (by kernel_rfl) (fun _ _ _ h => h) (Or.inl ⟨by rfl, fun w hSw => ?_⟩) hHeld ?_
          case refine_2 => go_simp; rfl
          try simp only [Act.put]
          refine wpAnyZ_take (i := 10) (v := ?_) rfl (by kernel_rfl) (by kernel_rfl) (by kernel_rfl) (by kernel_rfl) (fun _ _ _ h => h) (Or.inl ⟨by rfl, fun w hSw => ?_⟩) hHeld ?_
          case refine_2 => go_simp; rfl
          try simp only [Act.put]
          refine wpAnyZ_take (i := 11) (v := ?_) rfl (by kernel_rfl) (by kernel_rfl) (by kernel_rfl) (by kernel_rfl) (fun _ _ _ h => h) (Or.inl ⟨by rfl, fun w hSw => ?_⟩) hHeld ?_
          case refine_2 => go_simp; rfl
          try simp only [Act.put]
          refine wpAnyZ_take (i := 12) (v := ?_) rfl (by kernel_rfl) (by kernel_rfl) (by kernel_rfl) (by kernel_rfl) (fun _ _ _ h => h) (Or.inl ⟨by rfl, fun w hSw => ?_⟩) hHeld ?_
          case refine_2 => go_simp; rfl
          try simp only [Act.put]
          refine wpAnyZ_take (i := 13) (v := ?_) rfl (by kernel_rfl) (by kernel_rfl) (by kernel_rfl) (by kernel_rfl) (fun _ _ _ h => h) (Or.inl ⟨by rfl, fun w hSw => ?_⟩) hHeld ?_
          case refine_2 => go_simp; rfl
          try simp only [Act.put]
          refine wpAnyZ_take (i := 14) (v := ?_) rfl (by kernel_rfl) (by kernel_rfl) (by kernel_rfl) (by kernel_rfl) (fun _ _ _ h => h) (Or.inl ⟨by rfl, fun w hSw => ?_⟩) hHeld ?_
          case refine_2 => go_simp; rfl
          try simp only [Act.put]
          refine wpAnyZ_take (i := 15) (v := ?_) rfl (by kernel_rfl) (by kernel_rfl) (by kernel_rfl) (by kernel_rfl) (fun _ _ _ h => h) (Or.inl ⟨by rfl, fun w hSw => ?_⟩) hHeld ?_
          case refine_2 => go_simp; rfl
          try simp only [Act.put]
          refine wpAnyZ_take (i := 16) (v := ?_) rfl (by kernel_rfl) (by kernel_rfl) (by kernel_rfl) (by kernel_rfl) (fun _ _ _ h => h) (Or.inl ⟨by rfl, fun w hSw => ?_⟩) hHeld ?_
          case refine_2 => go_simp; rfl
          try simp only [Act.put]
          refine wpAnyZ_take (i := 17) (v := ?_) rfl (by kernel_rfl) (by kernel_rfl) (by kernel_rfl) (by kernel_rfl) (fun _ _ _ h => h) (Or.inl ⟨by rfl, fun w hSw => ?_⟩) hHeld ?_
          case refine_2 => go_simp; rfl
          try simp only [Act.put]
          refine wpAnyZ_one (i := 18) (by kernel_rfl) rfl (fun K hK => ?_)
          go_simp
          refine hK _ _ (fun _ => ?_) (fun hHeld2 => ?_)
          · simp [*, World.cell?_alloc_some]
          have hHeld := hHeld2 (by decide)
          clear hK K hHeld2
          try simp only [Act.put, List.setIfInBounds_toArray, List.set_cons_zero, List.set_cons_succ]
          refine wpAnyZ_one (i := 19) (by kernel_rfl) rfl (fun K hK => ?_)
          refine step_append_one (W := W) (F := G) rfl (.tmp 37) (.tmp 55) 165 rfl 187 i0 _ 4 32 Try.underlying165 hi hz0 hz1 hz2 rfl (by decide) (.slice va L.length vc) L.length (rows encTk L) Sv rfl HV.out w3.heap.size 1 187 (encTk ⟨k, IntKind.i64.wrap a.old, x.arg, a.move⟩) rfl rfl (by simp [encTk, Value.oneCell']) (by unfold maxLen; omega) (by omega) (H7.out.new w3.heap.size rfl (.cells (encTk ⟨k, IntKind.i64.wrap a.old, x.arg, a.move⟩).toArray 187 (0, 0))).drew ?_
          intro g4 cap4 w4 S4 r1 r2
          have hS4 : w4.cell? ⟨b3, 1, none⟩ = some (.slice (some ⟨g2, 0, none⟩) tr.length n2) ∧ w4.cell? ⟨g2, k2 * 7 + 4, none⟩ = some (.int .u64 a.old) ∧ w4.cell? ⟨g2, k2 * 7, none⟩ = some (.int .i64 a.move) := HSP.out w4 S4 r2
          have R1 := Lib.hid r1
          have R2 := Lib.hid r2
          refine hK _ _ (fun _ => hS4) (fun _ => ?_)
          clear hK K r1 r2 hHeld
          try simp only [Act.put, List.setIfInBounds_toArray]
          refine wpAnyZ_one (i := 20) (by kernel_rfl) rfl (fun K hK => ?_)
          go_simp
          refine hK _ _ (fun h => absurd rfl h) (fun _ => ?_)
          clear hK K
          try simp only [Act.put, List.setIfInBounds_toArray, List.set_cons_zero, List.set_cons_succ]
          refine wpAnyZ_done (by kernel_rfl) ?_ _
          go_wp2_with fail
          go_roundw
          case rel => exact ⟨k + 1, by omega, by go_num, S4, by rw [HADD.out, List.length_append, show rows encTk (L ++ [⟨k, IntKind.i64.wrap a.old, x.arg, a.move⟩]) = rows encTk L ++ encTk ⟨k, IntKind.i64.wrap a.old, x.arg, a.move⟩ from by simp [rows]]; exact R1.out, R2.out⟩
          case measure => simp [intOf]; omega
      · have d : decide (x.op = op) = false := decide_eq_false ho
        have ht1 : tk1 op addr tr k x = none := by unfold tk1; rw [if_neg ho]
        have HE : Hid (tixs op addr tr calls (k + 1) = tixs op addr tr calls k) := by unfold Hid; rw [HX.out, ht1]; simp
        clear ht1
        go_wp2_with fail
        go_roundw
        case rel => exact ⟨k + 1, by omega, by go_num, Sv, by rw [HE.out]; exact HV.out, H3.out.right⟩
        case measure => simp [intOf]; omega
    · have hke : k = calls.length := by omega
      subst hke
      have HH := Lib.hid hh
      clear hh
      go_wp2_with fail
      refine (sort_small va _ vc HO.out _ wr).mono ?_
      rintro e w2 ⟨rfl, rfl⟩
      go_wp2_with fail
      go_ret
      have h8 := HH.out
      rw [← HG.out] at h8
      exact ⟨_, Sv, rfl, HV.out, (h8.of_eq (show _ = Sv + (Sc + (St + Sw) + F) + (pt b5 (.cells #[.int .i64 addr] 3 (0, 0)) + pt b3 (runO (.slice a1 calls.length n1) (.slice a2 tr.length n2) (.slice a3 words.length n3))) by ac_rfl)).left⟩

end Go.Proofs.Ythifeaigdobonaa

namespace Go.Proofs.Ythifeaigdobonaa
open Go.RowKit

def earl (l : List Tk) (mv : Int) : Nat := l.countP fun t => decide (t.move < mv)
theorem earl_succ {l : List Tk} {k : Nat} {t : Tk} (h : l[k]? = some t) (mv : Int) : earl (l.take (k + 1)) mv = earl (l.take k) mv + (if t.move < mv then 1 else 0) := by
  unfold earl
  rw [List.take_add_one, h, List.countP_append]
  by_cases q : t.move < mv <;> simp [q]
theorem earl_le (l : List Tk) (mv : Int) : earl l mv ≤ l.length := List.countP_le_length

set_option maxHeartbeats 1000000 in
set_option maxRecDepth 100000 in
theorem earlier_at (W w : World) (tv : Value) (l : List Tk) (mv : Int) (S F : Hp) (hl : l.length ≤ 100000) (hr : RowAt 187 4 tv l.length (rows encTk l) S) (h : Holds W w (S + F)) :
    Calls Try.prog 91 #[tv, .int .i64 mv] w fun e w' => e = .returned (.int .i64 (earl l mv : Nat)) ∧ Holds W w' (S + F) := by
  obtain ⟨ta, tc, rfl⟩ := hr.form
  have HR := Lib.hid hr
  have HH := Lib.hid h
  have HLN := Lib.hid hl
  clear hr h
  go_enter Try.func91, Try.ntmps91
  go_wp2_with fail
  go_loopw [5, 7, 10] (fun n _ i wr => ∃ k : Nat, k ≤ l.length ∧ i = .int .i64 k ∧ n = .int .i64 (earl (l.take k) mv : Nat) ∧ Holds W wr (S + F)) (fun _ _ i _ => l.length - (intOf i).toNat)
  case atStart => exact ⟨0, Nat.zero_le _, rfl, rfl, HH.out⟩
  case round =>
    obtain ⟨k, hk, rfl, rfl, hh⟩ := hrel
    clear HH
    by_cases hlt : k < l.length
    · have hx := List.getElem?_eq_getElem hlt
      generalize l[k] = t at hx
      obtain ⟨g1, cap1, e1, gl1, cc⟩ := row_elem HR.out hh encTk_len hx
      injection e1 with e1 _ e1'
      subst e1; subst e1'
      have u0 := cc 0 (by decide); have u1 := cc 1 (by decide); have u2 := cc 2 (by decide); have u3 := cc 3 (by decide)
      simp only [encTk, List.getElem?_cons_zero, List.getElem?_cons_succ, Nat.add_zero] at u0 u1 u2 u3
      have b0 : (k : Int) < l.length := by omega
      have hb : earl (l.take k) mv ≤ 100000 := Nat.le_trans (earl_le _ _) (by rw [List.length_take]; omega)
      have hkb : (k : Int) ≤ 100000 := by have := HLN.out; omega
      have hs := earl_succ hx mv
      have H3 := Lib.hid (hh.new wr.heap.size rfl (.cells (encTk t).toArray 187 (0, 0)))
      clear cc hh hx
      obtain ⟨n, hn⟩ : ∃ n, n = earl (l.take k) mv := ⟨_, rfl⟩
      rw [← hn] at hb hs ⊢
      have HS := Lib.hid hs
      clear hn hs
      have hb' : (n : Int) ≤ 100000 := by omega
      by_cases q : t.move < mv
      · have d : decide (t.move < mv) = true := decide_eq_true q
        have HE : Hid (earl (l.take (k + 1)) mv = n + 1) := by unfold Hid; rw [HS.out, if_pos q]
        go_wp2_with fail
        go_roundw
        case rel => exact ⟨k + 1, by omega, by go_num, by rw [HE.out]; go_num, H3.out.right⟩
        case measure => simp [intOf]; omega
      · have d : decide (t.move < mv) = false := decide_eq_false q
        have HE : Hid (earl (l.take (k + 1)) mv = n) := by unfold Hid; rw [HS.out, if_neg q]; rfl
        go_wp2_with fail
        go_roundw
        case rel => exact ⟨k + 1, by omega, by go_num, by rw [HE.out], H3.out.right⟩
        case measure => simp [intOf]; omega
    · have hke : k = l.length := by omega
      have HE : Hid (earl (l.take k) mv = earl l mv) := by unfold Hid; rw [List.take_of_length_le (by omega)]
      have HH := Lib.hid hh
      clear hh
      go_wp2_with fail
      go_ret
      exact ⟨by rw [← HE.out]; rfl, HH.out⟩

def ended (e mv : Int) : Bool := decide (e ≠ -1) && decide (e ≤ mv)
def stopOf (calls : List ACall) (l : List Tk) (n : Int) : Int := (calls[(l[n.toNat]?.getD ⟨0, 0, 0, 0⟩).call.toNat]?.getD DM.noCall).stop
def thr (calls : List ACall) (l : List Tk) (n mv : Int) : Bool := if n < 0 ∨ (l.length : Int) ≤ n then false else ended (stopOf calls l n) mv

set_option maxHeartbeats 1000000 in
set_option maxRecDepth 100000 in
theorem through_at (W w : World) (v tv : Value) (calls : List ACall) (tr : List Acc) (words : List Int) (l : List Tk) (n mv : Int) (Sr S F : Hp) (hin : ∀ t ∈ l, 0 ≤ t.call ∧ t.call < calls.length)
    (hr : RunAt v calls tr words Sr) (ht : RowAt 187 4 tv l.length (rows encTk l) S) (h : Holds W w (Sr + (S + F))) :
    Calls Try.prog 90 #[v, tv, .int .i64 n, .int .i64 mv] w fun e w' => e = .returned (.bool (thr calls l n mv)) ∧ Holds W w' (Sr + (S + F)) := by
  obtain ⟨cv, uv, wv, Sc, St, Sw, rfl, p1, p2, p3, rfl⟩ := hr
  obtain ⟨a1, n1, rfl⟩ := p1.form
  obtain ⟨a2, n2, rfl⟩ := p2.form
  obtain ⟨a3, n3, rfl⟩ := p3.form
  obtain ⟨ta, tc, rfl⟩ := ht.form
  have h1 := h.new w.heap.size rfl (runO (.slice a1 calls.length n1) (.slice a2 tr.length n2) (.slice a3 words.length n3))
  have H1 := Lib.hid h1
  unfold runO at H1
  by_cases q0 : n < 0
  · have d : decide (n < 0) = true := decide_eq_true q0
    rw [show thr calls l n mv = false from by unfold thr; rw [if_pos (.inl q0)]]
    clear p1 p2 p3 ht h h1
    go_enter Try.func90, Try.ntmps90
    go_wp2_with fail
    go_ret
    exact ⟨rfl, H1.out.right⟩
  have d : decide (n < 0) = false := decide_eq_false q0
  by_cases q1 : (l.length : Int) ≤ n
  · have d1 : decide ((l.length : Int) ≤ n) = true := decide_eq_true q1
    rw [show thr calls l n mv = false from by unfold thr; rw [if_pos (.inr q1)]]
    clear p1 p2 p3 ht h h1
    go_enter Try.func90, Try.ntmps90
    go_wp2_with fail
    go_ret
    exact ⟨rfl, H1.out.right⟩
  have d1 : decide ((l.length : Int) ≤ n) = false := decide_eq_false q1
  obtain ⟨k, rfl⟩ := Int.eq_ofNat_of_zero_le (show 0 ≤ n by omega)
  have hx := List.getElem?_eq_getElem (show k < l.length by omega)
  generalize l[k] = t at hx
  obtain ⟨t0, t1⟩ := hin t (List.mem_of_getElem? hx)
  obtain ⟨ci, hci⟩ := Int.eq_ofNat_of_zero_le t0
  have hy := List.getElem?_eq_getElem (show ci < calls.length by omega)
  generalize calls[ci] = c at hy
  have hth : thr calls l k mv = ended c.stop mv := by
    unfold thr
    rw [if_neg (by omega)]
    have : stopOf calls l k = c.stop := by
      unfold stopOf
      rw [Int.toNat_natCast, hx]
      simp only [Option.getD_some]
      rw [hci, Int.toNat_natCast, hy]
      rfl
    rw [this]
  rw [hth]
  obtain ⟨g1, cap1, e1, gl1, cc⟩ := row_elem p1 (h1.of_eq (show _ = Sc + (pt w.heap.size (runO (.slice a1 calls.length n1) (.slice a2 tr.length n2) (.slice a3 words.length n3)) + ((St + Sw) + (S + F))) by ac_rfl)) encCall_len hy
  injection e1 with e1 _ e1'
  subst e1; subst e1'
  obtain ⟨g2, cap2, e2, gl2, cc2⟩ := row_elem ht (h1.of_eq (show _ = S + (pt w.heap.size (runO (.slice (some ⟨g1, 0, none⟩) calls.length n1) (.slice a2 tr.length n2) (.slice a3 words.length n3)) + ((Sc + (St + Sw)) + F)) by ac_rfl)) encTk_len hx
  injection e2 with e2 _ e2'
  subst e2; subst e2'
  have u5 := cc 5 (by decide)
  have v0 := cc2 0 (by decide)
  simp only [encCall, encTk, List.getElem?_cons_zero, List.getElem?_cons_succ, Nat.add_zero, hci] at u5 v0
  have r0 : (w.alloc (.cells #[.slice (some ⟨g1, 0, none⟩) calls.length n1, .slice a2 tr.length n2, .slice none 0 0, .slice a3 words.length n3] 33)).cell? ⟨w.heap.size, 0, none⟩ = some (.slice (some ⟨g1, 0, none⟩) calls.length n1) := by
    unfold runO at h1; rw [h1.cell]; rfl
  have b0 : (k : Int) < l.length := by omega
  have b1 : (ci : Int) < calls.length := by omega
  unfold runO at u5 v0
  clear p1 p2 p3 ht h h1 hth hx hy cc cc2 gl1 gl2 hin
  by_cases q2 : c.stop = -1
  · have d2 : (c.stop == -1) = true := by simp [q2]
    rw [show ended c.stop mv = false from by unfold ended; simp [q2]]
    go_enter Try.func90, Try.ntmps90
    go_upto_region 3 with fail
    generalize w.alloc (.cells #[.slice (some ⟨g1, 0, none⟩) calls.length n1, .slice a2 tr.length n2, .slice none 0 0, .slice a3 words.length n3] 33) = w1 at *
    go_quiet (fail)
    have H2 := Lib.hid (H1.out.right.drewN nq)
    go_wp2_with fail
    go_ret
    exact ⟨rfl, H2.out⟩
  have d2 : (c.stop == -1) = false := by simp [q2]
  by_cases q3 : c.stop ≤ mv
  · have d3 : decide (c.stop ≤ mv) = true := decide_eq_true q3
    rw [show ended c.stop mv = true from by unfold ended; simp [q2, q3]]
    go_enter Try.func90, Try.ntmps90
    go_upto_region 3 with fail
    generalize w.alloc (.cells #[.slice (some ⟨g1, 0, none⟩) calls.length n1, .slice a2 tr.length n2, .slice none 0 0, .slice a3 words.length n3] 33) = w1 at *
    go_quiet (fail)
    have H2 := Lib.hid (H1.out.right.drewN nq)
    go_wp2_with fail
    go_ret
    exact ⟨by simp [q2], H2.out⟩
  · have d3 : decide (c.stop ≤ mv) = false := decide_eq_false q3
    rw [show ended c.stop mv = false from by unfold ended; simp [q3]]
    go_enter Try.func90, Try.ntmps90
    go_upto_region 3 with fail
    generalize w.alloc (.cells #[.slice (some ⟨g1, 0, none⟩) calls.length n1, .slice a2 tr.length n2, .slice none 0 0, .slice a3 words.length n3] 33) = w1 at *
    go_quiet (fail)
    have H2 := Lib.hid (H1.out.right.drewN nq)
    go_wp2_with fail
    go_ret
    exact ⟨rfl, H2.out⟩

end Go.Proofs.Ythifeaigdobonaa
