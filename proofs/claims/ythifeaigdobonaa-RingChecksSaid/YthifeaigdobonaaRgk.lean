/- Chapter 22's first example: 'awake' of the ring's laws is true. -/
import Derived.Test.YthifeaigdobonaaRgj
namespace Go.Proofs.Ythifeaigdobonaa
open Go.RowKit

def rw1 : List DM.Mv := [⟨0, 100, 7, 0⟩] ++ List.replicate 5 (stepMv 0)
def rw2 : List DM.Mv := rw1 ++ [⟨1, 101, 0, 0⟩] ++ List.replicate 5 (stepMv 1)
def rw3 : List DM.Mv := rw2 ++ [⟨1, 101, 0, 0⟩] ++ List.replicate 2 (stepMv 1)
def rwDM : RM := (RM.init 2 2).runs rw3
theorem rw_calls : rwDM.calls.map (fun c => (c.op, c.ak, c.av, c.point)) = [(100, 1, 0, 3), (101, 2, 7, 9), (101, 3, 0, 14)] := by decide +kernel
theorem rw_stops : rwDM.calls.map (fun c => c.stop) = [5, 11, 14] := by decide +kernel
theorem rw_words : rwDM.words.map un = [1, 1, 2, 7, 1, 0] := by decide +kernel
theorem rw_len : rwDM.trace.length = 12 := by decide +kernel
theorem rw_puts : (tixs 100 0 rwDM.trace rwDM.calls rwDM.calls.length).map (fun t => (t.call, t.number, t.value, t.move)) = [(0, 0, 7, 3)] := by decide +kernel
theorem rw_picks : (tixs 101 1 rwDM.trace rwDM.calls rwDM.calls.length).map (fun t => (t.call, t.number, t.value, t.move)) = [(1, 0, 7, 9)] := by decide +kernel
theorem rw_ok : ∀ v ∈ rw3, (-100 ≤ v.thread ∧ v.thread ≤ 100) ∧ (-100 ≤ v.op ∧ v.op ≤ 102) ∧ (-100 ≤ v.arg ∧ v.arg ≤ 100) ∧ (-100 ≤ v.data ∧ v.data ≤ 100) := by decide +kernel

theorem tk_of {l : List Tk} {a b c d : Int} (h : l.map (fun t => (t.call, t.number, t.value, t.move)) = [(a, b, c, d)]) : l = [⟨a, b, c, d⟩] := by
  match l, h with
  | [t], h => simp at h; obtain ⟨rfl, rfl, rfl, rfl⟩ := h; rfl

theorem list3 {α : Type} : ∀ {l : List α}, l.length = 3 → ∃ a b c, l = [a, b, c]
  | [a, b, c], _ => ⟨a, b, c, rfl⟩

theorem rw_hok : HOK rwDM.calls (tixs 100 0 rwDM.trace rwDM.calls rwDM.calls.length) (tixs 101 1 rwDM.trace rwDM.calls rwDM.calls.length) := by
  have hc := rw_calls
  have hs := rw_stops
  rw [tk_of rw_puts, tk_of rw_picks]
  have hl : rwDM.calls.length = 3 := by have := congrArg List.length rw_calls; simpa using this
  obtain ⟨x, y, z, hxyz⟩ := list3 hl
  rw [hxyz] at hc hs ⊢
  simp at hc hs
  obtain ⟨⟨ho1, hk1, _, hp1⟩, ⟨ho2, hk2, _, hp2⟩, ⟨ho3, hk3, _, hp3⟩⟩ := hc
  obtain ⟨hs1, hs2, hs3⟩ := hs
  refine ⟨by decide, ?_, ?_, ?_, ?_, ?_, ?_⟩
  · intro i t h
    match i, h with
    | 0, h => simp at h; subst h; rfl
  · intro i t h
    match i, h with
    | 0, h => simp at h; subst h; rfl
  · constructor <;> (intro t ht; simp at ht; subst ht; constructor <;> simp)
  · intro i t h
    match i, h with
    | 0, h => simp at h; subst h; exact ⟨_, y, rfl, rfl, rfl⟩
  · intro c hc o k
    simp at hc
    rcases hc with rfl | rfl | rfl
    · omega
    · omega
    · rw [hp3]; rfl
  · intro c hc o
    simp at hc
    rcases hc with rfl | rfl | rfl
    · omega
    · omega
    · omega

theorem rw_cells (i : Nat) (p : Int × Int × Int × Int) (h : (rwDM.calls.map (fun c => (c.op, c.ak, c.av, c.point)))[i]? = some p) : ∃ c, rwDM.calls[i]? = some c ∧ c.ak = p.2.1 ∧ c.av = p.2.2.1 ∧ c.point = p.2.2.2 := by
  rw [List.getElem?_map] at h
  cases hc : rwDM.calls[i]? with
  | none => rw [hc] at h; cases h
  | some c => rw [hc] at h; injection h with h; subst h; exact ⟨c, rfl, rfl, rfl, rfl⟩

def mPick : DM.Mv := ⟨1, 101, 0, 0⟩

set_option maxHeartbeats 2000000 in
set_option maxRecDepth 100000 in
theorem rawake_yes (w : World) : Calls Try.prog 34 #[] w fun e w' => e = .returned (.bool true) ∧ Below w.heap.size w w' := by
  obtain ⟨i0, hi, hz0, hz1, hz2⟩ := info_parts infoMove
  have h1 := (Holds.self w).new w.heap.size rfl (.cells (encMv ⟨0, 100, 7, 0⟩).toArray 27 (0, 0))
  have r1 : RowAt 27 4 (.slice (some ⟨w.heap.size, 0, none⟩) 1 1) ([⟨0, 100, 7, 0⟩] : List DM.Mv).length (rows encMv [⟨0, 100, 7, 0⟩]) (pt w.heap.size (.cells (encMv ⟨0, 100, 7, 0⟩).toArray 27 (0, 0))) := by
    have := RowAt.mk 27 4 w.heap.size 1 1 (encMv ⟨0, 100, 7, 0⟩) [] rfl (Nat.le_refl _) (by decide) (by simp [encMv])
    rw [List.append_nil] at this
    exact this
  have R1 := Lib.hid r1
  have H1 := Lib.hid h1
  clear r1 h1
  go_enter Try.func34, Try.ntmps34
  go_wp2_with fail
  refine (steps_at w _ _ [⟨0, 100, 7, 0⟩] 0 5 _ emp (by decide) R1.out H1.out).mono ?_
  rintro e w2 ⟨v2, S2, rfl, r2, h2⟩
  obtain ⟨a2, c2, rfl⟩ := r2.form
  have R2 : Hid (RowAt 27 4 (.slice a2 6 c2) 6 (rows encMv rw1) S2) := r2
  have H2 := Lib.hid h2
  clear r2 h2 R1 H1
  go_wp2_with (at_builtin; go_must (refine wpList_append_one (W := w) (F := emp) rfl (.tmp 8) (.tmp 10) 24 rfl 27 i0 _ 4 32 Try.underlying24 hi hz0 hz1 hz2 rfl (by decide) (.slice a2 6 c2) 6 (rows encMv rw1) S2 rfl R2.out w2.heap.size 1 27 (encMv mPick) rfl rfl (by simp [encMv, mPick, Value.oneCell']) (by decide) (by decide) (H2.out.new w2.heap.size rfl (.cells (encMv mPick).toArray 27 (0, 0))) ?k1))
  case k1 =>
    intro g3 c3 w3 S3 r3 h3
    have R3 : Hid (RowAt 27 4 (.slice (some ⟨g3, 0, none⟩) 7 c3) (rw1 ++ [mPick]).length (rows encMv (rw1 ++ [mPick])) S3) := by
      have e : rows encMv (rw1 ++ [mPick]) = rows encMv rw1 ++ encMv mPick := by simp [rows]
      unfold Hid; rw [e]; exact r3
    have H3 := Lib.hid h3
    clear r3 h3 R2 H2
    go_wp2_with fail
    refine (steps_at w w3 _ (rw1 ++ [mPick]) 1 5 S3 emp (by decide) R3.out H3.out).mono ?_
    rintro e w4 ⟨v4, S4, rfl, r4, h4⟩
    obtain ⟨a4, c4, rfl⟩ := r4.form
    have R4 : Hid (RowAt 27 4 (.slice a4 12 c4) 12 (rows encMv rw2) S4) := r4
    have H4 := Lib.hid h4
    clear r4 h4 R3 H3
    go_wp2_with (at_builtin; go_must (refine wpList_append_one (W := w) (F := emp) rfl (.tmp 13) (.tmp 15) 24 rfl 27 i0 _ 4 32 Try.underlying24 hi hz0 hz1 hz2 rfl (by decide) (.slice a4 12 c4) 12 (rows encMv rw2) S4 rfl R4.out w4.heap.size 1 27 (encMv mPick) rfl rfl (by simp [encMv, mPick, Value.oneCell']) (by decide) (by decide) (H4.out.new w4.heap.size rfl (.cells (encMv mPick).toArray 27 (0, 0))) ?k2))
    case k2 =>
      intro g5 c5 w5 S5 r5 h5
      have R5 : Hid (RowAt 27 4 (.slice (some ⟨g5, 0, none⟩) 13 c5) (rw2 ++ [mPick]).length (rows encMv (rw2 ++ [mPick])) S5) := by
        have e : rows encMv (rw2 ++ [mPick]) = rows encMv rw2 ++ encMv mPick := by simp [rows]
        unfold Hid; rw [e]; exact r5
      have H5 := Lib.hid h5
      clear r5 h5 R4 H4
      go_wp2_with fail
      refine (steps_at w w5 _ (rw2 ++ [mPick]) 1 2 S5 emp (by decide) R5.out H5.out).mono ?_
      rintro e w6 ⟨v6, S6, rfl, r6, h6⟩
      obtain ⟨a6, c6, rfl⟩ := r6.form
      have R6 : Hid (RowAt 27 4 (.slice a6 15 c6) rw3.length (rows encMv rw3) S6) := r6
      have H6 := Lib.hid h6
      clear r6 h6 R5 H5
      go_wp2_with fail
      refine (small_at _).mono ?_
      rintro e w7 ⟨rfl, hb⟩
      have H7 := Lib.hid (H6.out.of_below hb)
      clear hb
      have hmv : MovesIn w7 a6 15 rw3 := by
        obtain ⟨a, cap, e, hm⟩ := MovesIn.own R6.out H7.out (by decide) (fun v hv => by
          obtain ⟨⟨a1, a2⟩, ⟨a3, a4⟩, ⟨a5, a6⟩, ⟨a7, a8⟩⟩ := rw_ok v hv
          exact ⟨I64.small (by omega) (by omega), I64.small (by omega) (by omega), I64.small (by omega) (by omega), I64.small (by omega) (by omega)⟩) (by decide)
        injection e with e _ _
        rw [e]; exact hm
      have HP := Lib.hid (rplay_ok w7 2 2 (by decide) a6 15 c6 rw3 hmv (by decide))
      clear hmv
      go_wp2_with fail
      refine HP.out.mono ?_
      rintro e w8 ⟨v8, S8, rfl, hR, h8⟩
      clear HP
      have hR' : RunAt v8 rwDM.calls rwDM.trace (rwDM.words.map un) S8 := hR
      have hcl : rwDM.calls.length = 3 := by have := congrArg List.length rw_calls; simpa using this
      have hwl : (rwDM.words.map un).length = 6 := by rw [rw_words]; rfl
      obtain ⟨a1, n1, a2', n2, a3, n3, rfl⟩ := run_open hR'
      obtain ⟨x1, hx1, x1a, x1v, x1p⟩ := rw_cells 1 _ (by rw [rw_calls]; rfl)
      obtain ⟨x2, hx2, x2a, x2v, x2p⟩ := rw_cells 2 _ (by rw [rw_calls]; rfl)
      have H8 := Lib.hid (H7.out.trans h8)
      have cellsOf : ∀ wr G, Holds w wr (S8 + G) → ∃ g1 g3, a1 = some ⟨g1, 0, none⟩ ∧ a3 = some ⟨g3, 0, none⟩ ∧ wr.cell? ⟨g1, 16, none⟩ = some (.int .i64 2) ∧ wr.cell? ⟨g1, 17, none⟩ = some (.int .i64 7) ∧ wr.cell? ⟨g1, 24, none⟩ = some (.int .i64 14) ∧ wr.cell? ⟨g1, 25, none⟩ = some (.int .i64 3) ∧ wr.cell? ⟨g3, 2, none⟩ = some (.int .u64 2) := by
        intro wr G k
        obtain ⟨cv, tv, wv, Sc, St, Sw, ev, p1, p2, p3, rfl⟩ := hR'
        injection ev with ev
        simp only [Array.mk.injEq, List.cons.injEq, and_true] at ev
        obtain ⟨rfl, rfl, _, rfl⟩ := ev
        obtain ⟨g1, cap1, e1, _, cc⟩ := row_elem p1 (k.of_eq (show _ = Sc + ((St + Sw) + G) by ac_rfl)) encCall_len hx1
        obtain ⟨g1', cap1', e1', _, cc'⟩ := row_elem p1 (k.of_eq (show _ = Sc + ((St + Sw) + G) by ac_rfl)) encCall_len hx2
        rw [u64s_rows] at p3
        obtain ⟨g3, cap3, e3, _, c3⟩ := row_elem p3 (k.of_eq (show _ = Sw + ((Sc + St) + G) by ac_rfl)) (fun _ => rfl) (k := 2) (x := 2) (by rw [rw_words]; rfl)
        injection e1 with e1 _ _
        injection e1' with e1' _ _
        injection e3 with e3 _ _
        rw [e1] at e1'
        injection e1' with e1'
        injection e1' with e1'
        subst e1'
        refine ⟨g1, g3, e1, e3, ?_, ?_, ?_, ?_, ?_⟩
        · have := cc 7 (by decide); rw [show 1 * 9 + 7 = 16 from rfl] at this; rw [this]; simp [encCall, x1a]
        · have := cc 8 (by decide); rw [show 1 * 9 + 8 = 17 from rfl] at this; rw [this]; simp [encCall, x1v]
        · have := cc' 6 (by decide); rw [show 2 * 9 + 6 = 24 from rfl] at this; rw [this]; simp [encCall, x2p]
        · have := cc' 7 (by decide); rw [show 2 * 9 + 7 = 25 from rfl] at this; rw [this]; simp [encCall, x2a]
        · exact c3 0 (by decide)
      obtain ⟨g1, g3, rfl, rfl, _, _, _, _, z2⟩ := cellsOf w8 _ H8.out
      have HCO := Lib.hid cellsOf
      have HRUN := Lib.hid hR'
      rw [hcl, hwl, rw_len] at HRUN ⊢
      have hlt3 := World.block_lt_of_cell? w8 _ z2
      have H9 := Lib.hid (H8.out.new w8.heap.size rfl (runO (.slice (some ⟨g1, 0, none⟩) 3 n1) (.slice a2' 12 n2) (.slice (some ⟨g3, 0, none⟩) 6 n3)))
      clear hR hR' cellsOf h8 hx1 hx2 x1a x1v x1p x2a x2v x2p hwl H8 R6 H6 H7
      go_upto_region 7 with fail
      obtain ⟨w9, hw9⟩ : ∃ w9, w9 = w8.alloc (.cells #[.slice (some ⟨g1, 0, none⟩) 3 n1, .slice a2' 12 n2, .slice none 0 0, .slice (some ⟨g3, 0, none⟩) 6 n3] 33) := ⟨_, rfl⟩
      obtain ⟨B, hB⟩ : ∃ B, B = w8.heap.size := ⟨_, rfl⟩
      rw [← hw9, ← hB]
      have H10 : Hid (Holds w w9 (pt B (runO (.slice (some ⟨g1, 0, none⟩) 3 n1) (.slice a2' 12 n2) (.slice (some ⟨g3, 0, none⟩) 6 n3)) + (S8 + (S6 + emp)))) := by rw [hw9, hB]; exact H9.out
      have hrc : ∀ wr G, Holds w wr (pt B (runO (.slice (some ⟨g1, 0, none⟩) 3 n1) (.slice a2' 12 n2) (.slice (some ⟨g3, 0, none⟩) 6 n3)) + G) → wr.cell? ⟨B, 0, none⟩ = some (.slice (some ⟨g1, 0, none⟩) 3 n1) ∧ wr.cell? ⟨B, 1, none⟩ = some (.slice a2' 12 n2) ∧ wr.cell? ⟨B, 2, none⟩ = some (.slice none 0 0) ∧ wr.cell? ⟨B, 3, none⟩ = some (.slice (some ⟨g3, 0, none⟩) 6 n3) := fun wr G k => by
        unfold runO at k; exact ⟨by rw [k.cell]; rfl, by rw [k.cell]; rfl, by rw [k.cell]; rfl, by rw [k.cell]; rfl⟩
      have HRC := Lib.hid hrc
      obtain ⟨d0, d1, d2, d3⟩ := hrc w9 _ H10.out
      have HD := Lib.hid H10.out.drew
      clear H9 hw9 hB hrc z2 hlt3
      go_cut [3, 4] from 51 to 56 (fun e3 s4 wx => e3 = .int .i64 0 ∧ s4 = .bool true ∧ Holds w wx (pt B (runO (.slice (some ⟨g1, 0, none⟩) 3 n1) (.slice a2' 12 n2) (.slice (some ⟨g3, 0, none⟩) 6 n3)) + (S8 + (S6 + emp))))
      case first =>
        go_region_held3 (fun w' => w'.cell? ⟨B, 0, none⟩ = some (.slice (some ⟨g1, 0, none⟩) 3 n1) ∧ w'.cell? ⟨B, 1, none⟩ = some (.slice a2' 12 n2) ∧ w'.cell? ⟨B, 2, none⟩ = some (.slice none 0 0) ∧ w'.cell? ⟨B, 3, none⟩ = some (.slice (some ⟨g3, 0, none⟩) 6 n3)) (go_keep)
          (first
            | (go_at_call 68; refine (small_at w9.drew).mono ?_; rintro e w11 ⟨rfl, hb⟩; have HS := Lib.hid (HD.out.of_below hb); obtain ⟨k0, k1, k2, k3⟩ := HRC.out w11 _ HS.out; clear hb)
            | (go_at_call 69; refine (rholds_at w _ _ 2 2 rwDM.calls rwDM.trace (rwDM.words.map un) S8 _ (by decide) (by rw [hcl]; decide) (by rw [rw_len]; decide) rw_hok HRUN.out (HS.out.of_eq (show _ = S8 + (pt B (runO (.slice (some ⟨g1, 0, none⟩) 3 n1) (.slice a2' 12 n2) (.slice (some ⟨g3, 0, none⟩) 6 n3)) + (S6 + emp)) by ac_rfl))).mono ?_; rintro e w12 ⟨rfl, h12⟩; have H12 := Lib.hid (h12.of_eq (show _ = pt B (runO (.slice (some ⟨g1, 0, none⟩) 3 n1) (.slice a2' 12 n2) (.slice (some ⟨g3, 0, none⟩) 6 n3)) + (S8 + (S6 + emp)) by ac_rfl)); obtain ⟨m0, m1, m2, m3⟩ := HRC.out w12 _ H12.out; clear h12))
        all_goals
          go_wp2_with fail
          go_meet
          exact ⟨rfl, rfl, H12.out⟩
      case rest =>
        obtain ⟨rfl, rfl, h13⟩ := hcut
        obtain ⟨k0, k1, k2, k3⟩ := HRC.out _ _ h13
        obtain ⟨g1', g3', e1, e3, y1, y2, y3, y4, _⟩ := HCO.out _ _ (h13.of_eq (show _ = S8 + (pt B (runO (.slice (some ⟨g1, 0, none⟩) 3 n1) (.slice a2' 12 n2) (.slice (some ⟨g3, 0, none⟩) 6 n3)) + (S6 + emp)) by ac_rfl))
        injection e1 with e1
        injection e1 with e1
        subst e1
        have H13 := Lib.hid h13
        clear h13 d0 d1 d2 d3 HD H10
        go_wp2_with fail
        go_ret
        exact ⟨rfl, H13.out.below⟩

end Go.Proofs.Ythifeaigdobonaa
