/- RingChecks: the walk. -/
import Derived.Test.YthifeaigdobonaaRgl
namespace Go.Proofs.Ythifeaigdobonaa
open Go.RowKit RM

set_option maxHeartbeats 1000000 in
set_option maxRecDepth 100000 in
theorem refwords_at (W w : World) (n cells : Nat) (S : Hp) (hok : okR n cells) (h : Holds W w S) :
    Calls Try.prog 37 #[rgV n cells] w fun e w' => ∃ v S', e = .returned v ∧ RowAt 82 1 v (2 + 2 * cells) (u64s (0 :: 0 :: turns cells)) S' ∧ Holds W w' (S' + S) := by
  have h1 := h.new w.heap.size rfl (.cells #[.int .i64 (n : Int), .int .i64 (cells : Int)] 75 (0, 0))
  have hc : 2 ≤ cells ∧ cells ≤ 64 := by unfold okR at hok; omega
  have hmk : ∀ w, (Instr.makeSlice 31 (.int .i64 (2 + 2 * (cells : Int))) (.int .i64 (2 + 2 * (cells : Int)))).run Try.prog w = .ok (.slice (some ⟨w.heap.size, 0, none⟩) (2 + 2 * cells) (2 + 2 * cells)) (w.alloc (.cells (u64s (List.replicate (2 + 2 * cells) 0)).toArray 82 (0, 0))) := fun w => by
    have := make_u64s (2 + 2 * cells) (by omega) w
    rw [show ((2 + 2 * cells : Nat) : Int) = 2 + 2 * (cells : Int) from by omega] at this
    exact this
  unfold rgV
  clear h hok
  go_enter Try.func37, Try.ntmps37
  go_upto_region 1 with fail
  generalize w.alloc (.cells #[.int .i64 (n : Int), .int .i64 (cells : Int)] 75) = w1 at h1 ⊢
  have c1 : w1.cell? ⟨w.heap.size, 1, none⟩ = some (.int .i64 (cells : Int)) := by rw [h1.cell]; rfl
  have H3 := Lib.hid (h1.new w1.heap.size rfl (.cells (u64s (List.replicate (2 + 2 * cells) 0)).toArray 82 (0, 0)))
  clear h1
  go_upto_region 2 with fail
  obtain ⟨g, hg⟩ : ∃ g, g = w1.heap.size := ⟨_, rfl⟩
  rw [← hg]
  obtain ⟨w2, hw2⟩ : ∃ w2, w2 = w1.alloc (.cells (u64s (List.replicate (2 + 2 * cells) 0)).toArray 82) := ⟨_, rfl⟩
  rw [← hw2]
  have H4 : Hid (Holds W w2 (pt g (.cells (u64s (wsK cells 0)).toArray 82 (0, 0)) + (pt w.heap.size (.cells #[.int .i64 (n : Int), .int .i64 (cells : Int)] 75 (0, 0)) + S))) := by
    rw [hw2, hg, wsK_zero]; exact H3.out
  clear H3 hw2 hg hmk c1
  go_wp2_with fail
  go_loopw [4] (fun i wr => ∃ k : Nat, k ≤ cells ∧ i = .int .i64 k ∧ Holds W wr (pt g (.cells (u64s (wsK cells k)).toArray 82 (0, 0)) + (pt w.heap.size (.cells #[.int .i64 (n : Int), .int .i64 (cells : Int)] 75 (0, 0)) + S))) (fun i _ => cells - (intOf i).toNat)
  case atStart => exact ⟨0, Nat.zero_le _, rfl, H4.out⟩
  case round =>
    obtain ⟨k, hk, rfl, h5⟩ := hrel
    clear H4
    have c1 : wr.cell? ⟨w.heap.size, 1, none⟩ = some (.int .i64 (cells : Int)) := by rw [h5.right.cell]; rfl
    by_cases hlt : k < cells
    · have e0 : wr.cell? ⟨g, 2 + 2 * k, none⟩ = some (.int .u64 (wd (wsK cells k) (2 + 2 * k))) := by
        rw [h5.cell]
        have hl := wsK_len (cells := cells) (k := k) hk
        have : (wsK cells k)[2 + 2 * k]? = some (wsK cells k)[2 + 2 * k] := List.getElem?_eq_getElem (by omega)
        simp [u64s, wd, this]
      have f0 := h5.free (2 + 2 * k)
      have H6 : Hid (Holds W (wr.setCell ⟨g, 2 + 2 * k, none⟩ (.int .u64 k)) (pt g (.cells (u64s (wsK cells (k + 1))).toArray 82 (0, 0)) + (pt w.heap.size (.cells #[.int .i64 (n : Int), .int .i64 (cells : Int)] 75 (0, 0)) + S))) := by
        have := h5.set (2 + 2 * k) (.int .u64 k)
        rw [u64s_set, wsK_set hlt] at this
        exact this
      clear h5
      have b0 : (2 + 2 * (k : Int)) < ((2 + 2 * cells : Nat) : Int) := by omega
      go_wp2_with fail
      exact ⟨⟨k + 1, by omega, by go_num, H6.out⟩, by simp [intOf]; omega⟩
    · have : k = cells := by omega
      subst this
      have H5 := Lib.hid h5
      clear h5
      go_wp2_with fail
      go_ret
      refine ⟨_, _, rfl, ?_, H5.out.of_eq (show _ = pt g (.cells (u64s (wsK k k)).toArray 82 (0, 0)) + S + pt w.heap.size _ by ac_rfl) |>.left⟩
      rw [wsK_full]
      have := RowAt.mk 82 1 g (2 + 2 * k) (2 + 2 * k) (u64s (0 :: 0 :: turns k)) [] (by simp [u64s, turns_len]; omega) (Nat.le_refl _) (by unfold maxLen; omega) (by simp [u64s, turns_len]; omega)
      rw [List.append_nil] at this
      exact this

set_option maxHeartbeats 1000000 in
set_option maxRecDepth 100000 in
theorem samewords_at (W w : World) (v1 v2 : Value) (l : List Int) (S1 S2 F : Hp) (hl : l.length ≤ 100000) (r1 : RowAt 82 1 v1 l.length (u64s l) S1) (r2 : RowAt 82 1 v2 l.length (u64s l) S2) (h : Holds W w (S1 + (S2 + F))) :
    Calls Try.prog 36 #[v1, v2] w fun e w' => e = .returned (.bool true) ∧ Holds W w' (S1 + (S2 + F)) := by
  rw [u64s_rows] at r1 r2
  obtain ⟨a1, c1, rfl⟩ := r1.form
  obtain ⟨a2, c2, rfl⟩ := r2.form
  have R1 := Lib.hid r1
  have R2 := Lib.hid r2
  have H := Lib.hid h
  clear r1 r2 h
  go_enter Try.func36, Try.ntmps36
  go_wp2_with fail
  go_loopw [5] (fun i wr => ∃ k : Nat, k ≤ l.length ∧ i = .int .i64 k ∧ Holds W wr (S1 + (S2 + F))) (fun i _ => l.length - (intOf i).toNat)
  case atStart => exact ⟨0, Nat.zero_le _, rfl, H.out⟩
  case round =>
    obtain ⟨k, hk, rfl, hh⟩ := hrel
    clear H
    by_cases hlt : k < l.length
    · have hx := List.getElem?_eq_getElem hlt
      generalize l[k] = c at hx
      obtain ⟨g1, cap1, e1, gl1, cc1⟩ := row_elem R1.out hh (fun _ => rfl) hx
      obtain ⟨g2, cap2, e2, gl2, cc2⟩ := row_elem R2.out (hh.of_eq (show _ = S2 + (S1 + F) by ac_rfl)) (fun _ => rfl) hx
      injection e1 with e1 _ e1'
      injection e2 with e2 _ e2'
      subst e1; subst e1'; subst e2; subst e2'
      have u0 := cc1 0 (by decide)
      have z0 := cc2 0 (by decide)
      simp only [encW, List.getElem?_cons_zero, Nat.add_zero, Nat.mul_one] at u0 z0
      have HH : Hid (∀ nq, Holds W (wr.drewN nq) (S1 + (S2 + F))) := fun nq => hh.drewN nq
      clear cc1 cc2 hh hx
      have b0 : (k : Int) < l.length := by omega
      go_wp2_with fail
      go_quiet (fail)
      go_wp2_with fail
      go_roundw
      case rel => exact ⟨k + 1, by omega, by go_num, HH.out _⟩
      case measure => simp [intOf]; omega
    · have : k = l.length := by omega
      subst this
      have HH := Lib.hid hh
      clear hh
      go_wp2_with fail
      go_ret
      exact ⟨rfl, HH.out⟩

theorem u64s_setr (l : List Int) (rest : List Value) {i : Nat} (hi : i < l.length) (v : Int) : (u64s l ++ rest).toArray.setIfInBounds i (.int .u64 v) = (u64s (l.set i v) ++ rest).toArray := by
  have hi' : i < (u64s l).length := by simpa [u64s] using hi
  rw [List.setIfInBounds_toArray, List.set_append_left _ _ hi']
  simp [u64s, List.map_set]

theorem rchecks_no (W : World) (th cells : Int) (hno : ¬ okR th cells) : Calls Try.prog 7 #[rgV th cells] W (TruePost W) := by
  have h0 := (Holds.self W).new W.heap.size rfl (rbO th cells)
  have HN := Lib.hid hno
  have H0 := Lib.hid h0
  clear hno h0
  unfold rbO at H0
  unfold rgV
  go_enter Try.func7, Try.ntmps7
  go_wp2_with fail
  refine (ring_check W _ th cells _ H0.out).mono ?_
  rintro e w1 ⟨rfl, h1⟩
  rw [show errR th cells = 220 from by unfold errR; rw [if_neg HN.out]]
  obtain ⟨c0, c1, _, _⟩ := rboxCells (x := th) (y := cells) h1
  have H1 := Lib.hid h1
  clear h1 H0
  go_wp2_with fail
  refine (ring_words_no W w1 th cells _ HN.out H1.out).mono ?_
  rintro e w2 ⟨rfl, h2⟩
  have H2 := Lib.hid h2
  clear h2 H1 c0 c1
  go_wp2_with fail
  refine (rawake_yes w2).mono ?_
  rintro e w3 ⟨rfl, hb⟩
  have H3 := Lib.hid (H2.out.of_below hb)
  clear hb H2
  go_wp2_with fail
  refine (ring_check W w3 0 0 _ H3.out).mono ?_
  rintro e w4 ⟨rfl, h4⟩
  rw [show errR 0 0 = 220 from by decide]
  obtain ⟨c0, c1, _, _⟩ := rboxCells (x := th) (y := cells) h4
  have H4 := Lib.hid h4
  clear h4 H3
  go_wp2_with fail
  refine (rmay_at w4 th cells).mono ?_
  rintro e w5 ⟨rfl, hb⟩
  rw [decide_eq_false HN.out]
  have H5 := Lib.hid (H4.out.of_below hb)
  clear hb H4 c0 c1
  go_wp2_with fail
  go_ret
  exact ⟨rfl, H5.out.below⟩

set_option maxHeartbeats 2000000 in
set_option maxRecDepth 100000 in
theorem rchecks_ok (W : World) (n r : Nat) (hok : okR n r) : Calls Try.prog 7 #[rgV n r] W (TruePost W) := by
  obtain ⟨i0, hi, hz0, hz1, hz2⟩ := info_parts infoU64
  have hr64 : r ≤ 64 := by unfold okR at hok; omega
  have h0 := (Holds.self W).new W.heap.size rfl (rbO n r)
  have HO := Lib.hid hok
  have H0 := Lib.hid h0
  obtain ⟨N, hN⟩ : ∃ N, N = 2 + 2 * r := ⟨_, rfl⟩
  have hNb : N ≤ 200 := by omega
  have hN0 : 0 < N := by omega
  obtain ⟨l0, hl0⟩ : ∃ l0, l0 = 0 :: 0 :: turns r := ⟨_, rfl⟩
  have hlen : l0.length = N := by rw [hl0, hN]; simp [turns_len]; omega
  have HLEN := Lib.hid hlen
  have hwords : ∀ w S, Holds W w S → Calls Try.prog 33 #[rgV n r] w fun e w' => ∃ v S', e = .returned (.tuple #[v, .int .i64 0]) ∧ RowAt 82 1 v N (u64s l0) S' ∧ Holds W w' (S' + S) := fun w S h => by rw [hN, hl0]; exact ring_words W w n r S HO.out h
  have hrefw : ∀ w S, Holds W w S → Calls Try.prog 37 #[rgV n r] w fun e w' => ∃ v S', e = .returned v ∧ RowAt 82 1 v N (u64s l0) S' ∧ Holds W w' (S' + S) := fun w S h => by rw [hN, hl0]; exact refwords_at W w n r S HO.out h
  have HWD := Lib.hid hwords
  have HRW := Lib.hid hrefw
  clear hok h0 hl0 hN hlen hwords hrefw
  unfold rbO at H0
  unfold rgV at HWD HRW ⊢
  go_enter Try.func7, Try.ntmps7
  go_wp2_with fail
  refine (ring_check W _ n r _ H0.out).mono ?_
  rintro e w1 ⟨rfl, h1⟩
  rw [show errR n r = 0 from by unfold errR; rw [if_pos HO.out]]
  obtain ⟨c0, c1, _, _⟩ := rboxCells (x := n) (y := r) h1
  have H1 : Hid (Holds W w1 (pt W.heap.size (rbO n r) + emp)) := h1
  clear h1 H0
  go_wp2_with fail
  refine (HWD.out w1 _ H1.out).mono ?_
  rintro e w2 ⟨v4, S4, rfl, r4, h2⟩
  obtain ⟨b4, m4, rfl⟩ := r4.form
  have R4 := Lib.hid r4
  have H2 := Lib.hid h2
  clear r4 h2 H1 c0 c1
  go_wp2_with fail
  refine (rawake_yes w2).mono ?_
  rintro e w3 ⟨rfl, hb⟩
  have H3 := Lib.hid (H2.out.of_below hb)
  clear hb H2
  go_wp2_with fail
  refine (ring_check W w3 0 0 _ H3.out).mono ?_
  rintro e w4 ⟨rfl, h4⟩
  rw [show errR 0 0 = 220 from by decide]
  obtain ⟨c0, c1, _, _⟩ := rboxCells (h4.of_eq (show _ = pt W.heap.size (rbO n r) + (S4 + emp) by ac_rfl))
  have H4 := Lib.hid h4
  clear h4 H3
  go_wp2_with fail
  refine (rmay_at w4 n r).mono ?_
  rintro e w5 ⟨rfl, hb⟩
  rw [decide_eq_true HO.out]
  have h5 := H4.out.of_below hb
  clear c0 c1
  obtain ⟨c0, c1, _, _⟩ := rboxCells (h5.of_eq (show _ = pt W.heap.size (rbO n r) + (S4 + emp) by ac_rfl))
  have H5 := Lib.hid h5
  clear hb H4 h5
  go_wp2_with fail
  refine (HRW.out w5 _ H5.out).mono ?_
  rintro e w6 ⟨v6, S6, rfl, r6, h6⟩
  have R6 := Lib.hid r6
  have H6 := Lib.hid h6
  clear r6 h6 H5 c0 c1
  go_wp2_with fail
  refine (samewords_at W w6 _ v6 l0 S4 S6 (pt W.heap.size (rbO n r) + emp) (by have := HLEN.out; omega) (by rw [HLEN.out]; exact R4.out) (by rw [HLEN.out]; exact R6.out) (H6.out.of_eq (by ac_rfl))).mono ?_
  rintro e w7 ⟨rfl, h7⟩
  obtain ⟨c0, c1, _, _⟩ := rboxCells (h7.of_eq (show _ = pt W.heap.size (rbO n r) + (S4 + (S6 + emp)) by ac_rfl))
  have H7 := Lib.hid h7
  clear h7 H6 R6
  go_wp2_with fail
  refine (HWD.out w7 _ H7.out).mono ?_
  rintro e w8 ⟨v8, S8, rfl, r8, h8⟩
  have R8 := Lib.hid r8
  have H8 := Lib.hid h8
  clear r8 h8 H7 c0 c1
  obtain ⟨b8, m8, rfl⟩ := R8.out.form
  obtain ⟨g4, cap4, rest, e4, q1, q2, q3, rfl⟩ := R4.out.some hN0
  injection e4 with e4 _ e4'
  subst e4; subst e4'
  obtain ⟨G, hG⟩ : ∃ G, S8 + (S6 + (pt W.heap.size (rbO n r) + emp)) = G := ⟨_, rfl⟩
  have H9 : Hid (Holds W w8 (pt g4 (.cells (u64s l0 ++ rest).toArray 82 (0, 0)) + G)) := by rw [← hG]; exact H8.out.of_eq (by ac_rfl)
  have HG := Lib.hid hG
  have HQ : Hid (m4 ≤ maxLen ∧ rest.length + N = m4) := by
    refine ⟨q2, ?_⟩
    have h1 : (u64s l0).length = N := by simp [u64s]; exact HLEN.out
    rw [List.length_append, h1] at q3
    omega
  have HQ1 := Lib.hid q1
  clear H8 hG q1 q2 q3 R4
  go_wp2_with fail
  go_loopw [7] (fun i wr => ∃ k : Nat, k ≤ N ∧ i = .int .i64 k ∧ ∃ l : List Int, l.length = N ∧ Holds W wr (pt g4 (.cells (u64s l ++ rest).toArray 82 (0, 0)) + G)) (fun i _ => N - (intOf i).toNat)
  case atStart => exact ⟨0, Nat.zero_le _, rfl, l0, HLEN.out, H9.out⟩
  case round =>
    obtain ⟨k, hk, rfl, l, hll, hh⟩ := hrel
    clear H9
    by_cases hlt : k < N
    · have e0 : wr.cell? ⟨g4, k, none⟩ = some (.int .u64 (wd l k)) := by
        rw [hh.cell]
        simp [u64s, wd, List.getElem?_append, hll, hlt]
      have f0 := hh.free k
      have H6 : Hid (Holds W (wr.setCell ⟨g4, k, none⟩ (.int .u64 77)) (pt g4 (.cells (u64s (l.set k 77) ++ rest).toArray 82 (0, 0)) + G)) := by
        have := hh.set k (.int .u64 77)
        rw [u64s_setr _ _ (by omega)] at this
        exact this
      have HLL := Lib.hid hll
      have b0 : (k : Int) < N := by omega
      have hkb : (k : Int) ≤ 200 := by omega
      clear hh hll
      go_wp2_with fail
      go_roundw
      case rel => exact ⟨k + 1, by omega, by go_num, l.set k 77, by rw [List.length_set]; exact HLL.out, H6.out⟩
      case measure => simp [intOf]; omega
    · have hke : k = N := by omega
      have hrow : RowAt 82 1 (.slice (some ⟨g4, 0, none⟩) N m4) N (u64s l) (pt g4 (.cells (u64s l ++ rest).toArray 82 (0, 0))) :=
        RowAt.mk 82 1 g4 N m4 (u64s l) rest (by simp [u64s, hll]) HQ1.out HQ.out.1 (by rw [List.length_append]; simp [u64s, hll]; have := HQ.out.2; omega)
      have HROW := Lib.hid hrow
      have HH := Lib.hid hh
      clear hh hrow hll hke
      go_wp2_with (at_builtin; go_must (refine wpList_append_one (W := W) (F := G) rfl (.tmp 65) (.tmp 66) 31 rfl 82 i0 _ 1 8 Try.underlying31 hi hz0 hz1 hz2 rfl (by decide) (.slice (some ⟨g4, 0, none⟩) N m4) N (u64s l) _ rfl HROW.out wr.heap.size 1 82 [Value.int .u64 78] rfl rfl (by simp [Value.oneCell']) ?b1 ?b2 (HH.out.new wr.heap.size rfl (.cells [Value.int .u64 78].toArray 82 (0, 0))) ?kk))
      case b1 => unfold maxLen; omega
      case b2 => omega
      case kk =>
        intro g5 c5 w9 S9 r9 h9
        have R9 := Lib.hid r9
        have H9 := Lib.hid h9
        clear r9 h9 HROW HH
        go_wp2_with fail
        go_loopw [8, 9] (fun u i wr => ∃ k : Nat, k ≤ 70 ∧ i = .int .i64 k ∧ ∃ xs Sx, RowAt 82 1 u (N + 1 + k) xs Sx ∧ Holds W wr (Sx + G)) (fun _ i _ => 70 - (intOf i).toNat)
        case atStart => exact ⟨0, Nat.zero_le _, rfl, _, S9, R9.out, H9.out⟩
        case round =>
          obtain ⟨k3, hk3, rfl, xs, Sx, hx, hh⟩ := hrel
          clear H9 R9
          obtain ⟨ua, uc, rfl⟩ := hx.form
          have HX := Lib.hid hx
          have HH := Lib.hid hh
          clear hx hh
          by_cases hlt3 : k3 < 70
          · obtain ⟨M, hM⟩ : ∃ M, M = N + 1 + k3 := ⟨_, rfl⟩
            rw [← hM] at HX ⊢
            have HMM := Lib.hid hM
            have hMb : M ≤ 300 := by omega
            clear hM
            go_wp2_with (at_builtin; go_must (refine wpList_append_one (W := W) (F := G) rfl (.tmp 72) (.tmp 73) 31 rfl 82 i0 _ 1 8 Try.underlying31 hi hz0 hz1 hz2 rfl (by decide) (.slice ua M uc) M xs _ rfl HX.out wr.heap.size 1 82 [Value.int .u64 79] rfl rfl (by simp [Value.oneCell']) ?b1 ?b2 (HH.out.new wr.heap.size rfl (.cells [Value.int .u64 79].toArray 82 (0, 0))) ?kk))
            case b1 => unfold maxLen; omega
            case b2 => omega
            case kk =>
              intro g6 c6 w10 S10 r10 h10
              have R10 := Lib.hid r10
              have H10 := Lib.hid h10
              clear r10 h10 HX HH
              go_wp2_with fail
              go_roundw
              case rel => exact ⟨k3 + 1, by omega, by go_num, _, S10, by have := R10.out; rw [HMM.out] at this ⊢; exact this, H10.out⟩
              case measure => simp [intOf]; omega
          · have hke3 : k3 = 70 := by omega
            have h11 := HH.out
            rw [← HG.out] at h11
            obtain ⟨c0, c1, _, _⟩ := rboxCells (h11.of_eq (show _ = pt W.heap.size (rbO n r) + (Sx + (S8 + (S6 + emp))) by ac_rfl))
            have H11 := Lib.hid h11
            clear hke3 h11 HX HH
            go_wp2_with fail
            refine (HRW.out _ _ H11.out).mono ?_
            rintro e w12 ⟨v12, S12, rfl, r12, h12⟩
            have R12 := Lib.hid r12
            have H12 := Lib.hid h12
            clear r12 h12 c0 c1
            go_wp2_with fail
            refine (samewords_at W w12 _ v12 l0 S8 S12 (Sx + (S6 + (pt W.heap.size (rbO n r) + emp))) (by have := HLEN.out; omega) (by rw [HLEN.out]; exact R8.out) (by rw [HLEN.out]; exact R12.out) (H12.out.of_eq (by ac_rfl))).mono ?_
            rintro e w13 ⟨rfl, h13⟩
            have H13 := Lib.hid h13
            clear h13
            go_wp2_with fail
            go_ret
            exact ⟨rfl, H13.out.below⟩

theorem rchecks_walk (W : World) (th cells : Int) : Calls Try.prog 7 #[rgV th cells] W (TruePost W) := by
  by_cases h : okR th cells
  · obtain ⟨n, r, rfl, rfl⟩ : ∃ n r : Nat, th = n ∧ cells = r := by unfold okR at h; exact ⟨th.toNat, cells.toNat, by omega, by omega⟩
    exact rchecks_ok W n r h
  · exact rchecks_no W th cells h

end Go.Proofs.Ythifeaigdobonaa
