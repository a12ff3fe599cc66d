/- ring.Holds of a run whose tickets are in order (one at most of each op): it is true. -/
import Derived.Test.YthifeaigdobonaaRgg
namespace Go.Proofs.Ythifeaigdobonaa
open Go.RowKit

theorem run_open {v : Value} {c : List ACall} {t : List Acc} {ws : List Int} {S : Hp} (h : RunAt v c t ws S) : ∃ a1 n1 a2 n2 a3 n3, v = .agg #[.slice a1 c.length n1, .slice a2 t.length n2, .slice none 0 0, .slice a3 ws.length n3] := by
  obtain ⟨cv, tv, wv, Sc, St, Sw, rfl, p1, p2, p3, rfl⟩ := h
  obtain ⟨a1, n1, rfl⟩ := p1.form
  obtain ⟨a2, n2, rfl⟩ := p2.form
  obtain ⟨a3, n3, rfl⟩ := p3.form
  exact ⟨a1, n1, a2, n2, a3, n3, rfl⟩

/-- What the tickets of a run must be like. -/
structure HOK (calls : List ACall) (puts picks : List Tk) : Prop where
  one : puts.length ≤ 1 ∧ picks.length ≤ 1
  num1 : ∀ (i : Nat) (x : Tk), puts[i]? = some x → x.number = i
  num2 : ∀ (i : Nat) (x : Tk), picks[i]? = some x → x.number = i
  inn : (∀ t ∈ puts, 0 ≤ t.call ∧ t.call < calls.length) ∧ ∀ t ∈ picks, 0 ≤ t.call ∧ t.call < calls.length
  pair : ∀ (i : Nat) (x : Tk), picks[i]? = some x → ∃ (y : Tk) (c : ACall), puts[i]? = some y ∧ calls[x.call.toNat]? = some c ∧ x.value = y.value
  emp : ∀ c ∈ calls, c.op = 101 → c.ak = 3 → thr calls puts (earl picks c.point : Nat) c.point = false
  full : ∀ c ∈ calls, c.op = 100 → c.ak ≠ 4

set_option maxHeartbeats 4000000 in
set_option maxRecDepth 100000 in
theorem rholds_at (W w : World) (v : Value) (n cells : Nat) (calls : List ACall) (tr : List Acc) (words : List Int) (Sr F : Hp) (hok : okR n cells) (hc : calls.length ≤ 100000) (ht : tr.length ≤ 100000)
    (hO : HOK calls (tixs 100 0 tr calls calls.length) (tixs 101 1 tr calls calls.length)) (hr : RunAt v calls tr words Sr) (h : Holds W w (Sr + F)) :
    Calls Try.prog 69 #[rgV n cells, v] w fun e w' => e = .returned (.tuple #[.bool true, .int .i64 0]) ∧ Holds W w' (Sr + F) := by
  obtain ⟨puts, hpu⟩ : ∃ puts, puts = tixs 100 0 tr calls calls.length := ⟨_, rfl⟩
  obtain ⟨picks, hpi⟩ : ∃ picks, picks = tixs 101 1 tr calls calls.length := ⟨_, rfl⟩
  have hrun := hr
  obtain ⟨a1, n1, a2, n2, a3, n3, rfl⟩ := run_open hr
  have h1 := (h.new w.heap.size rfl (rbO n cells)).new (w.heap.size + 1) (by simp) (runO (.slice a1 calls.length n1) (.slice a2 tr.length n2) (.slice a3 words.length n3))
  obtain ⟨b2, hb2⟩ : ∃ b2, b2 = w.heap.size := ⟨_, rfl⟩
  obtain ⟨b3, hb3⟩ : ∃ b3, b3 = w.heap.size + 1 := ⟨_, rfl⟩
  rw [← hb3, ← hb2] at h1
  have h2 := h1.of_eq (show _ = Sr + (pt b3 (runO (.slice a1 calls.length n1) (.slice a2 tr.length n2) (.slice a3 words.length n3)) + (pt b2 (rbO n cells) + F)) by ac_rfl)
  rw [← hpu, ← hpi] at hO
  have hbox : ∀ wr G, Holds W wr (pt b2 (rbO n cells) + G) → wr.cell? ⟨b2, 0, none⟩ = some (.int .i64 (n : Int)) ∧ wr.cell? ⟨b2, 1, none⟩ = some (.int .i64 (cells : Int)) := fun wr G k => by
    unfold rbO at k; exact ⟨by rw [k.cell]; rfl, by rw [k.cell]; rfl⟩
  have hrc : ∀ wr G, Holds W wr (pt b3 (runO (.slice a1 calls.length n1) (.slice a2 tr.length n2) (.slice a3 words.length n3)) + G) → wr.cell? ⟨b3, 0, none⟩ = some (.slice a1 calls.length n1) ∧ wr.cell? ⟨b3, 1, none⟩ = some (.slice a2 tr.length n2) ∧ wr.cell? ⟨b3, 2, none⟩ = some (.slice none 0 0) ∧ wr.cell? ⟨b3, 3, none⟩ = some (.slice a3 words.length n3) := fun wr G k => by
    unfold runO at k; exact ⟨by rw [k.cell]; rfl, by rw [k.cell]; rfl, by rw [k.cell]; rfl, by rw [k.cell]; rfl⟩
  have HRUN := Lib.hid hrun
  have HO := Lib.hid hO
  have H2 := Lib.hid h2
  have HBX := Lib.hid hbox
  have HRC := Lib.hid hrc
  have HPU := Lib.hid hpu
  have HPI := Lib.hid hpi
  clear hrun hO h1 h2 hbox hrc hpu hpi h hr
  unfold rgV
  unfold rbO runO at H2
  rw [hb3, hb2] at H2
  go_enter Try.func69, Try.ntmps69
  go_upto_region 1 with fail
  rw [← hb3, ← hb2]
  rw [← hb3, ← hb2] at H2
  generalize (w.alloc (.cells #[.int .i64 (n : Int), .int .i64 (cells : Int)] 75)).alloc (.cells #[.slice a1 calls.length n1, .slice a2 tr.length n2, .slice none 0 0, .slice a3 words.length n3] 33) = w0 at H2 ⊢
  clear hb2 hb3
  obtain ⟨c0, c1⟩ := HBX.out w0 (Sr + (pt b3 (runO (.slice a1 calls.length n1) (.slice a2 tr.length n2) (.slice a3 words.length n3)) + F)) (H2.out.of_eq (by unfold rbO runO; ac_rfl))
  go_wp2_with fail
  refine (ring_check W w0 n cells _ H2.out).mono ?_
  rintro e w1 ⟨rfl, h3⟩
  rw [show errR n cells = 0 from by unfold errR; rw [if_pos hok]]
  have H3 : Hid (Holds W w1 (Sr + (pt b3 (runO (.slice a1 calls.length n1) (.slice a2 tr.length n2) (.slice a3 words.length n3)) + (pt b2 (rbO n cells) + F)))) := h3
  clear c0 c1 h3 H2
  go_upto_region 4 with fail
  have HONE : Hid ((tixs 100 0 tr calls calls.length).length ≤ 1 ∧ (tixs 101 1 tr calls calls.length).length ≤ 1) := by have := HO.out.one; rw [HPU.out, HPI.out] at this; exact this
  obtain ⟨d0, d1, d2, d3⟩ := HRC.out w1 (Sr + (pt b2 (rbO n cells) + F)) (H3.out.of_eq (by ac_rfl))
  have HD := Lib.hid H3.out.drew
  go_cut [7, 8] from 23 to 26 (fun s7 s8 wx => ∃ q7 m7 q8 m8 S7 S8, s7 = .slice q7 puts.length m7 ∧ s8 = .slice q8 picks.length m8 ∧ RowAt 187 4 (.slice q7 puts.length m7) puts.length (rows encTk puts) S7 ∧ RowAt 187 4 (.slice q8 picks.length m8) picks.length (rows encTk picks) S8 ∧
    Holds W wx (S7 + (S8 + (Sr + (pt b3 (runO (.slice a1 calls.length n1) (.slice a2 tr.length n2) (.slice a3 words.length n3)) + (pt b2 (rbO n cells) + F))))))
  case first =>
    go_region_held3 (fun w' => w'.cell? ⟨b3, 0, none⟩ = some (.slice a1 calls.length n1) ∧ w'.cell? ⟨b3, 1, none⟩ = some (.slice a2 tr.length n2) ∧ w'.cell? ⟨b3, 2, none⟩ = some (.slice none 0 0) ∧ w'.cell? ⟨b3, 3, none⟩ = some (.slice a3 words.length n3)) (go_keep)
      (first
        | (go_at_call 79; refine (tickets_at W w1.drew _ calls tr words 100 0 Sr _ hc ht HONE.out.1 HRUN.out HD.out).mono ?_; rintro e w2 ⟨v7, S7, rfl, hr7, h7⟩; rw [← HPU.out] at hr7; obtain ⟨q7, m7, rfl⟩ := hr7.form; obtain ⟨k0, k1, k2, k3⟩ := HRC.out w2 (S7 + (Sr + (pt b2 (rbO n cells) + F))) (h7.of_eq (by ac_rfl)); have HR7 := Lib.hid hr7; have H7 := Lib.hid h7; clear hr7 h7 HD)
        | (go_at_call 79; refine (tickets_at W w2 _ calls tr words 101 1 Sr (S7 + (pt b3 (runO (.slice a1 calls.length n1) (.slice a2 tr.length n2) (.slice a3 words.length n3)) + (pt b2 (rbO n cells) + F))) hc ht HONE.out.2 HRUN.out (H7.out.of_eq (by ac_rfl))).mono ?_; rintro e w3 ⟨v8, S8, rfl, hr8, h8⟩; rw [← HPI.out] at hr8; obtain ⟨q8, m8, rfl⟩ := hr8.form; obtain ⟨z0, z1, z2, z3⟩ := HRC.out w3 (S8 + (Sr + (S7 + (pt b2 (rbO n cells) + F)))) (h8.of_eq (by ac_rfl)); have HR8 := Lib.hid hr8; have H8 := Lib.hid h8; clear hr8 h8))
    all_goals
      go_wp2_with fail
      go_meet
      exact ⟨q7, m7, q8, m8, S7, S8, rfl, rfl, HR7.out, HR8.out, H8.out.of_eq (by ac_rfl)⟩
  case rest =>
    obtain ⟨q7, m7, q8, m8, S7, S8, rfl, rfl, hr7, hr8, h8⟩ := hcut
    have HR7 := Lib.hid hr7
    have HR8 := Lib.hid hr8
    clear d0 d1 d2 d3 H3 hr7 hr8 HONE HD
    obtain ⟨G, hG⟩ : ∃ G, S7 + (S8 + (Sr + (pt b3 (runO (.slice a1 calls.length n1) (.slice a2 tr.length n2) (.slice a3 words.length n3)) + (pt b2 (rbO n cells) + F)))) = G := ⟨_, rfl⟩
    rw [hG] at h8
    have H9 : Hid (Holds W (World.alloc wc (.cells #[.slice q7 puts.length m7, .slice q8 picks.length m8] 165 (0, 0))) (pt (World.heap wc).size (.cells #[.slice q7 puts.length m7, .slice q8 picks.length m8] 165 (0, 0)) + G)) := h8.new _ rfl _
    have HG := Lib.hid hG
    clear h8 hG
    go_upto_region 6 with fail
    obtain ⟨BL, hBL⟩ : ∃ BL, BL = (World.heap wc).size := ⟨_, rfl⟩
    obtain ⟨wb, hwb⟩ : ∃ wb, wb = World.alloc wc (.cells #[.slice q7 puts.length m7, .slice q8 picks.length m8] 165) := ⟨_, rfl⟩
    rw [← hBL, ← hwb]
    rw [← hBL] at H9
    obtain ⟨LL, hLL⟩ : ∃ LL, pt BL (.cells #[.slice q7 puts.length m7, .slice q8 picks.length m8] 165 (0, 0)) = LL := ⟨_, rfl⟩
    have HH : Hid (Holds W wb (LL + G)) := by rw [hwb, ← hLL]; exact H9.out
    have hll : ∀ wr, Holds W wr (LL + G) → wr.cell? ⟨BL, 0, none⟩ = some (.slice q7 puts.length m7) ∧ wr.cell? ⟨BL, 1, none⟩ = some (.slice q8 picks.length m8) := fun wr k => by
      rw [← hLL] at k; exact ⟨by rw [k.cell]; rfl, by rw [k.cell]; rfl⟩
    have HLL := Lib.hid hll
    clear hBL hwb H9 hLL hll
    go_loopw [10, 11, 12, 31] (fun _ _ _ j wr => ∃ k : Nat, k ≤ 2 ∧ j = .int .i64 k ∧ Holds W wr (LL + G)) (fun _ _ _ j _ => 2 - (intOf j).toNat)
    case atStart => exact ⟨0, by decide, rfl, HH.out⟩
    case round =>
      obtain ⟨k, hk, rfl, hh⟩ := hrel
      clear HH
      have HH := Lib.hid hh
      obtain ⟨l0, l1⟩ := HLL.out _ hh
      clear hh
      rcases show k = 0 ∨ k = 1 ∨ k = 2 by omega with rfl | rfl | hkk
      · clear l1
        go_wp2_with fail
        go_loopw [11, 12, 37] (fun _ _ i wr => ∃ k2 : Nat, k2 ≤ puts.length ∧ i = .int .i64 k2 ∧ Holds W wr (LL + G)) (fun _ _ i _ => puts.length - (intOf i).toNat)
        case atStart => exact ⟨0, Nat.zero_le _, rfl, HH.out⟩
        case round =>
          obtain ⟨k2, hk2, rfl, hh⟩ := hrel
          clear HH
          by_cases hlt : k2 < puts.length
          · have hx := List.getElem?_eq_getElem hlt
            generalize puts[k2] = x at hx
            have hnum := HO.out.num1 k2 x hx
            have hh1 := hh; rw [← HG.out] at hh1
            obtain ⟨g1, cap1, e1, gl1, cc⟩ := row_elem HR7.out (hh1.of_eq (show _ = S7 + (LL + (S8 + (Sr + (pt b3 (runO (.slice a1 calls.length n1) (.slice a2 tr.length n2) (.slice a3 words.length n3)) + (pt b2 (rbO n cells) + F))))) by ac_rfl)) encTk_len hx
            injection e1 with e1 _ e1'
            subst e1; subst e1'
            have u0 := cc 0 (by decide); have u1 := cc 1 (by decide); have u2 := cc 2 (by decide); have u3 := cc 3 (by decide)
            simp only [encTk, List.getElem?_cons_zero, List.getElem?_cons_succ, Nat.add_zero, hnum] at u0 u1 u2 u3
            have b0 : (k2 : Int) < puts.length := by omega
            have hkb : (k2 : Int) ≤ 100000 := by have := HO.out.one; omega
            have H3 := Lib.hid (hh.new wr.heap.size rfl (.cells #[.int .i64 x.call, .int .i64 (k2 : Int), .int .i64 x.value, .int .i64 x.move] 187 (0, 0)))
            clear cc hh hh1 hx hnum
            go_wp2_with fail
            go_roundw
            case rel => exact ⟨k2 + 1, by omega, by go_num, H3.out.right⟩
            case measure => simp [intOf]; omega
          · have hke : k2 = puts.length := by omega
            subst hke
            have HH := Lib.hid hh
            clear hh
            go_wp2_with fail
            go_roundw
            case rel => exact ⟨1, by omega, by go_num, HH.out⟩
            case measure => simp [intOf]
      · clear l0
        go_wp2_with fail
        go_loopw [11, 12, 37] (fun _ _ i wr => ∃ k2 : Nat, k2 ≤ picks.length ∧ i = .int .i64 k2 ∧ Holds W wr (LL + G)) (fun _ _ i _ => picks.length - (intOf i).toNat)
        case atStart => exact ⟨0, Nat.zero_le _, rfl, HH.out⟩
        case round =>
          obtain ⟨k2, hk2, rfl, hh⟩ := hrel
          clear HH
          by_cases hlt : k2 < picks.length
          · have hx := List.getElem?_eq_getElem hlt
            generalize picks[k2] = x at hx
            have hnum := HO.out.num2 k2 x hx
            have hh1 := hh; rw [← HG.out] at hh1
            obtain ⟨g1, cap1, e1, gl1, cc⟩ := row_elem HR8.out (hh1.of_eq (show _ = S8 + (LL + (S7 + (Sr + (pt b3 (runO (.slice a1 calls.length n1) (.slice a2 tr.length n2) (.slice a3 words.length n3)) + (pt b2 (rbO n cells) + F))))) by ac_rfl)) encTk_len hx
            injection e1 with e1 _ e1'
            subst e1; subst e1'
            have u0 := cc 0 (by decide); have u1 := cc 1 (by decide); have u2 := cc 2 (by decide); have u3 := cc 3 (by decide)
            simp only [encTk, List.getElem?_cons_zero, List.getElem?_cons_succ, Nat.add_zero, hnum] at u0 u1 u2 u3
            have b0 : (k2 : Int) < picks.length := by omega
            have hkb : (k2 : Int) ≤ 100000 := by have := HO.out.one; omega
            have H3 := Lib.hid (hh.new wr.heap.size rfl (.cells #[.int .i64 x.call, .int .i64 (k2 : Int), .int .i64 x.value, .int .i64 x.move] 187 (0, 0)))
            clear cc hh hh1 hx hnum
            go_wp2_with fail
            go_roundw
            case rel => exact ⟨k2 + 1, by omega, by go_num, H3.out.right⟩
            case measure => simp [intOf]; omega
          · have hke : k2 = picks.length := by omega
            subst hke
            have HH := Lib.hid hh
            clear hh
            go_wp2_with fail
            go_roundw
            case rel => exact ⟨2, by omega, by go_num, HH.out⟩
            case measure => simp [intOf]
      · have dk : ¬ ((k : Int) < 2) := by omega
        clear l0 l1 hkk hk
        go_wp2_with fail
        clear dk
        go_loopw [13, 14, 51] (fun _ _ i wr => ∃ k2 : Nat, k2 ≤ picks.length ∧ i = .int .i64 k2 ∧ Holds W wr (LL + G)) (fun _ _ i _ => picks.length - (intOf i).toNat)
        case atStart => exact ⟨0, Nat.zero_le _, rfl, HH.out⟩
        case round =>
          obtain ⟨k2, hk2, rfl, hh⟩ := hrel
          clear HH
          by_cases hlt : k2 < picks.length
          · have hx := List.getElem?_eq_getElem hlt
            generalize picks[k2] = x at hx
            obtain ⟨y, c, hy, hcc, hval⟩ := HO.out.pair k2 x hx
            have hin := HO.out.inn.2 x (List.mem_of_getElem? hx)
            obtain ⟨ci, hci⟩ := Int.eq_ofNat_of_zero_le hin.1
            rw [hci, Int.toNat_natCast] at hcc
            have hyl : k2 < puts.length := (List.getElem?_eq_some_iff.1 hy).1
            have hh1 := hh; rw [← HG.out] at hh1
            obtain ⟨g8, cap8, e8, gl8, cc8⟩ := row_elem HR8.out (hh1.of_eq (show _ = S8 + (LL + (S7 + (Sr + (pt b3 (runO (.slice a1 calls.length n1) (.slice a2 tr.length n2) (.slice a3 words.length n3)) + (pt b2 (rbO n cells) + F))))) by ac_rfl)) encTk_len hx
            injection e8 with e8 _ e8'
            subst e8; subst e8'
            have u0 := cc8 0 (by decide); have u1 := cc8 1 (by decide); have u2 := cc8 2 (by decide); have u3 := cc8 3 (by decide)
            simp only [encTk, List.getElem?_cons_zero, List.getElem?_cons_succ, Nat.add_zero] at u0 u1 u2 u3
            have b0 : (k2 : Int) < picks.length := by omega
            have b1 : (k2 : Int) < puts.length := by omega
            have b2' : (ci : Int) < calls.length := by have := hin.2; omega
            have hkb : (k2 : Int) ≤ 100000 := by have := HO.out.one; omega
            have H3 := Lib.hid (hh.new wr.heap.size rfl (.cells #[.int .i64 x.call, .int .i64 x.number, .int .i64 x.value, .int .i64 x.move] 187 (0, 0)))
            have HY := Lib.hid hy
            have HC := Lib.hid hcc
            have HCI := Lib.hid hci
            have HVAL := Lib.hid hval
            clear cc8 hh hh1 hx hy hcc hin hci hval
            go_upto_region 18 with fail
            generalize wr.alloc (.cells #[.int .i64 x.call, .int .i64 x.number, .int .i64 x.value, .int .i64 x.move] 187) = w5 at H3 ⊢
            generalize wr.heap.size = BX at H3 ⊢
            clear u0 u1 u2 u3
            have h5 := H3.out
            have v0 : w5.cell? ⟨BX, 0, none⟩ = some (.int .i64 ci) := by rw [h5.cell, ← HCI.out]; rfl
            have v2 : w5.cell? ⟨BX, 2, none⟩ = some (.int .i64 x.value) := by rw [h5.cell]; rfl
            have h6 := h5.right.right
            rw [← HG.out] at h6
            obtain ⟨r0, _, _, _⟩ := HRC.out w5 (S7 + (S8 + (Sr + (pt b2 (rbO n cells) + F)))) (h6.of_eq (by ac_rfl))
            obtain ⟨g7, cap7, e7, _, cc7⟩ := row_elem HR7.out (h6.of_eq (show _ = S7 + (S8 + (Sr + (pt b3 (runO (.slice a1 calls.length n1) (.slice a2 tr.length n2) (.slice a3 words.length n3)) + (pt b2 (rbO n cells) + F)))) by ac_rfl)) encTk_len HY.out
            injection e7 with e7 _ e7'
            subst e7; subst e7'
            have y2 := cc7 2 (by decide)
            simp only [encTk, List.getElem?_cons_zero, List.getElem?_cons_succ] at y2
            obtain ⟨cv0, tv0, wv0, Sc, St, Sw, ev, p1, p2, p3, eS⟩ := HRUN.out
            injection ev with ev
            simp only [Array.mk.injEq, List.cons.injEq, and_true] at ev
            have ev1 := ev.1
            clear ev
            rw [← ev1] at p1
            rw [eS] at h6
            obtain ⟨gc, capc, ec, _, ccc⟩ := row_elem p1 (h6.of_eq (show _ = Sc + (S7 + (S8 + ((St + Sw) + (pt b3 (runO (.slice a1 calls.length n1) (.slice a2 tr.length n2) (.slice a3 words.length n3)) + (pt b2 (rbO n cells) + F))))) by ac_rfl)) encCall_len HC.out
            injection ec with ec _ ec'
            subst ec; subst ec'
            have x5 := ccc 5 (by decide)
            simp only [encCall, List.getElem?_cons_zero, List.getElem?_cons_succ] at x5
            have dg : ¬ ((puts.length : Int) ≤ (k2 : Int)) := by omega
            rw [HVAL.out] at v2
            have HK : Hid (∀ nq, Holds W (w5.drewN nq) (LL + G)) := fun nq => h5.right.drewN nq
            clear h5 h6 cc7 ccc p1 p2 p3 HY HC ev1 H3 HVAL HCI
            by_cases q : c.stop = -1
            · rw [q] at x5
              clear q
              go_quiet (fail)
              go_wp2_with fail
              go_roundw
              case rel => exact ⟨k2 + 1, by omega, by go_num, HK.out _⟩
              case measure => simp [intOf]; omega
            · have dq : (c.stop != -1) = true := by simp [q]
              have dq2 : (c.stop == -1) = false := by simp [q]
              have dq3 : decide (c.stop = -1) = false := decide_eq_false q
              go_quiet (fail)
              go_wp2_with fail
              go_roundw
              case rel => exact ⟨k2 + 1, by omega, by go_num, HK.out _⟩
              case measure => simp [intOf]; omega
          · have hke : k2 = picks.length := by omega
            have HH := Lib.hid hh
            clear hh hke
            have h6 := HH.out
            rw [← HG.out] at h6
            obtain ⟨r0, _, _, _⟩ := HRC.out wr (LL + (S7 + (S8 + (Sr + (pt b2 (rbO n cells) + F))))) (h6.of_eq (by ac_rfl))
            clear h6
            go_wp2_with fail
            go_loopw [16, 17, 87] (fun _ _ i wr => ∃ k2 : Nat, k2 ≤ calls.length ∧ i = .int .i64 k2 ∧ Holds W wr (LL + G)) (fun _ _ i _ => calls.length - (intOf i).toNat)
            case atStart => exact ⟨0, Nat.zero_le _, rfl, HH.out⟩
            case round =>
              obtain ⟨k2, hk2, rfl, hh⟩ := hrel
              clear HH r0
              by_cases hlt : k2 < calls.length
              · have hx := List.getElem?_eq_getElem hlt
                generalize calls[k2] = c at hx
                have hmem := List.mem_of_getElem? hx
                have hemp := HO.out.emp c hmem
                have hfull := HO.out.full c hmem
                have hh1 := hh; rw [← HG.out] at hh1
                obtain ⟨cv0, tv0, wv0, Sc, St, Sw, ev, p1, p2, p3, eS⟩ := HRUN.out
                injection ev with ev
                simp only [Array.mk.injEq, List.cons.injEq, and_true] at ev
                have ev1 := ev.1
                clear ev
                rw [← ev1] at p1
                rw [eS] at hh1
                obtain ⟨gc, capc, ec, _, ccc⟩ := row_elem p1 (hh1.of_eq (show _ = Sc + (LL + (S7 + (S8 + ((St + Sw) + (pt b3 (runO (.slice a1 calls.length n1) (.slice a2 tr.length n2) (.slice a3 words.length n3)) + (pt b2 (rbO n cells) + F)))))) by ac_rfl)) encCall_len hx
                injection ec with ec _ ec'
                subst ec; subst ec'
                have u0 := ccc 0 (by decide); have u1 := ccc 1 (by decide); have u2 := ccc 2 (by decide); have u3 := ccc 3 (by decide); have u4 := ccc 4 (by decide); have u5 := ccc 5 (by decide); have u6 := ccc 6 (by decide); have u7 := ccc 7 (by decide); have u8 := ccc 8 (by decide)
                simp only [encCall, List.getElem?_cons_zero, List.getElem?_cons_succ, Nat.add_zero] at u0 u1 u2 u3 u4 u5 u6 u7 u8
                have b0 : (k2 : Int) < calls.length := by omega
                have hkb : (k2 : Int) ≤ 100000 := by omega
                have H3 := Lib.hid (hh.new wr.heap.size rfl (.cells (encCall c).toArray 66 (0, 0)))
                have HEMP := Lib.hid hemp
                have HFULL := Lib.hid hfull
                clear ccc hh hh1 hx hmem hemp hfull p1 p2 p3 ev1 eS
                go_upto_region 24 with fail
                obtain ⟨w5, hw5⟩ : ∃ w5, w5 = wr.alloc (.cells #[.int .i64 c.thread, .int .i64 c.op, .int .i64 c.arg, .int .i64 c.data, .int .i64 c.start, .int .i64 c.stop, .int .i64 c.point, .int .i64 c.ak, .int .i64 c.av] 66) := ⟨_, rfl⟩
                obtain ⟨BX, hBX⟩ : ∃ BX, BX = wr.heap.size := ⟨_, rfl⟩
                rw [← hw5, ← hBX]
                have H3 : Hid (Holds W w5 (pt BX (.cells (encCall c).toArray 66 (0, 0)) + (LL + G))) := by rw [hw5, hBX]; exact H3.out
                clear hw5 hBX
                clear u0 u1 u2 u3 u4 u5 u6 u7 u8
                have h5 := H3.out
                have v1 : w5.cell? ⟨BX, 1, none⟩ = some (.int .i64 c.op) := by rw [h5.cell]; rfl
                have v6 : w5.cell? ⟨BX, 6, none⟩ = some (.int .i64 c.point) := by rw [h5.cell]; rfl
                have v7 : w5.cell? ⟨BX, 7, none⟩ = some (.int .i64 c.ak) := by rw [h5.cell]; rfl
                have h6 := h5.right.right
                rw [← HG.out] at h6
                have HK : Hid (∀ nq, Holds W (w5.drewN nq) (pt BX (.cells (encCall c).toArray 66 (0, 0)) + (LL + G))) := fun nq => h5.drewN nq
                by_cases o2 : c.op = 100
                · have hk4 := HFULL.out o2
                  rw [o2] at v1
                  clear o2 h5 h6 HEMP HFULL v6 H3
                  go_quiet (fail)
                  have v1 : (World.drewN w5 nq).cell? ⟨BX, 1, none⟩ = some (.int .i64 100) := v1
                  have v7 : (World.drewN w5 nq).cell? ⟨BX, 7, none⟩ = some (.int .i64 c.ak) := v7
                  have d4 : (c.ak == 4) = false := by simp [hk4]
                  go_wp2_with fail
                  go_roundw
                  case rel => exact ⟨k2 + 1, by omega, by go_num, (HK.out _).right⟩
                  case measure => simp [intOf]; omega
                by_cases o1 : c.op = 101
                · have hthr := HEMP.out o1
                  rw [o1] at v1
                  clear o2 HEMP HFULL
                  by_cases k3 : c.ak = 3
                  · have HT := Lib.hid (hthr k3)
                    rw [k3] at v7
                    obtain ⟨r0, r1, r2, r3⟩ := HRC.out w5 (S7 + (S8 + (Sr + (pt b2 (rbO n cells) + F)))) (h6.of_eq (by ac_rfl))
                    have back : ∀ w9, Holds W w9 (S8 + (S7 + (Sr + (pt BX (.cells (encCall c).toArray 66 (0, 0)) + (LL + (pt b3 (runO (.slice (some ⟨gc, 0, none⟩) calls.length n1) (.slice a2 tr.length n2) (.slice a3 words.length n3)) + (pt b2 (rbO n cells) + F))))))) → (w9.cell? ⟨b3, 0, none⟩ = some (.slice (some ⟨gc, 0, none⟩) calls.length n1) ∧ w9.cell? ⟨b3, 1, none⟩ = some (.slice a2 tr.length n2) ∧ w9.cell? ⟨b3, 2, none⟩ = some (.slice none 0 0) ∧ w9.cell? ⟨b3, 3, none⟩ = some (.slice a3 words.length n3)) ∧ w9.cell? ⟨BX, 1, none⟩ = some (.int .i64 101) ∧ w9.cell? ⟨BX, 6, none⟩ = some (.int .i64 c.point) ∧ w9.cell? ⟨BX, 7, none⟩ = some (.int .i64 3) := by
                      intro w9 k
                      obtain ⟨z0, z1, z2, z3⟩ := HRC.out w9 (S8 + (S7 + (Sr + (pt BX (.cells (encCall c).toArray 66 (0, 0)) + (LL + (pt b2 (rbO n cells) + F)))))) (k.of_eq (by ac_rfl))
                      have k' := k.of_eq (show _ = pt BX (.cells (encCall c).toArray 66 (0, 0)) + (S8 + (S7 + (Sr + (LL + (pt b3 (runO (.slice (some ⟨gc, 0, none⟩) calls.length n1) (.slice a2 tr.length n2) (.slice a3 words.length n3)) + (pt b2 (rbO n cells) + F)))))) by ac_rfl)
                      exact ⟨⟨z0, z1, z2, z3⟩, by rw [k'.cell, ← o1]; rfl, by rw [k'.cell]; rfl, by rw [k'.cell, ← k3]; rfl⟩
                    have HBK := Lib.hid back
                    have HD : Hid (Holds W w5.drew (S8 + (S7 + (Sr + (pt BX (.cells (encCall c).toArray 66 (0, 0)) + (LL + (pt b3 (runO (.slice (some ⟨gc, 0, none⟩) calls.length n1) (.slice a2 tr.length n2) (.slice a3 words.length n3)) + (pt b2 (rbO n cells) + F)))))))) := by
                      have := h5.drew
                      rw [← HG.out] at this
                      exact this.of_eq (by ac_rfl)
                    have HIN := Lib.hid HO.out.inn.1
                    have HLP : Hid (picks.length ≤ 100000) := by unfold Hid; have := HO.out.one; omega
                    clear k3 h5 h6 back HK H3 hthr o1
                    go_region_held3 (fun w' => w'.cell? ⟨b3, 0, none⟩ = some (.slice (some ⟨gc, 0, none⟩) calls.length n1) ∧ w'.cell? ⟨b3, 1, none⟩ = some (.slice a2 tr.length n2) ∧ w'.cell? ⟨b3, 2, none⟩ = some (.slice none 0 0) ∧ w'.cell? ⟨b3, 3, none⟩ = some (.slice a3 words.length n3) ∧ w'.cell? ⟨BX, 1, none⟩ = some (.int .i64 101) ∧ w'.cell? ⟨BX, 6, none⟩ = some (.int .i64 c.point) ∧ w'.cell? ⟨BX, 7, none⟩ = some (.int .i64 3)) (go_keep)
                      (first
                        | (go_at_call 91; refine (earlier_at W w5.drew _ picks c.point S8 _ HLP.out HR8.out HD.out).mono ?_; rintro e w6 ⟨rfl, h6⟩; obtain ⟨⟨m0, m1, m2, m3⟩, m4, m5, m6⟩ := HBK.out w6 h6; have H6 := Lib.hid h6; clear h6)
                        | (go_at_call 90; have HC := through_at W w6 _ _ calls tr words puts (earl picks c.point : Nat) c.point Sr S7 (S8 + (pt BX (.cells (encCall c).toArray 66 (0, 0)) + (LL + (pt b3 (runO (.slice (some ⟨gc, 0, none⟩) calls.length n1) (.slice a2 tr.length n2) (.slice a3 words.length n3)) + (pt b2 (rbO n cells) + F))))) HIN.out HRUN.out HR7.out (H6.out.of_eq (by ac_rfl)); rw [HT.out] at HC; refine HC.mono ?_; rintro e w7 ⟨rfl, h7⟩; clear HC; obtain ⟨⟨z0, z1, z2, z3⟩, z4, z5, z6⟩ := HBK.out w7 (h7.of_eq (by ac_rfl)); have H7 := Lib.hid h7; clear h7))
                    all_goals
                      go_wp2_with fail
                      go_roundw
                      case rel => exact ⟨k2 + 1, by omega, by go_num, (by have := H7.out; rw [← HG.out]; exact (this.of_eq (show _ = pt BX (.cells (encCall c).toArray 66 (0, 0)) + (LL + (S7 + (S8 + (Sr + (pt b3 (runO (.slice (some ⟨gc, 0, none⟩) calls.length n1) (.slice a2 tr.length n2) (.slice a3 words.length n3)) + (pt b2 (rbO n cells) + F)))))) by ac_rfl)).right)⟩
                      case measure => simp [intOf]; omega
                  · have d3 : (c.ak == 3) = false := by simp [k3]
                    clear h5 h6 hthr H3 o1
                    go_quiet (fail)
                    have v1 : (World.drewN w5 nq).cell? ⟨BX, 1, none⟩ = some (.int .i64 101) := v1
                    go_wp2_with fail
                    go_roundw
                    case rel => exact ⟨k2 + 1, by omega, by go_num, (HK.out _).right⟩
                    case measure => simp [intOf]; omega
                · have d1 : (c.op == 101) = false := by simp [o1]
                  have d2 : (c.op == 100) = false := by simp [o2]
                  clear h5 h6 HEMP HFULL H3
                  go_quiet (fail)
                  have v1 : (World.drewN w5 nq).cell? ⟨BX, 1, none⟩ = some (.int .i64 c.op) := v1
                  go_wp2_with fail
                  go_roundw
                  case rel => exact ⟨k2 + 1, by omega, by go_num, (HK.out _).right⟩
                  case measure => simp [intOf]; omega
              · have hke : k2 = calls.length := by omega
                have HH := Lib.hid hh
                clear hh hke
                go_wp2_with fail
                go_ret2
                have h6 := HH.out
                rw [← HG.out] at h6
                exact ⟨rfl, (h6.of_eq (show _ = (LL + (S7 + S8) + pt b3 (runO (.slice a1 calls.length n1) (.slice a2 tr.length n2) (.slice a3 words.length n3)) + pt b2 (rbO n cells)) + (Sr + F) by ac_rfl)).right⟩

end Go.Proofs.Ythifeaigdobonaa
