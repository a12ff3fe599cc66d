/- DequePlays: the walk. -/
import Derived.Test.YthifeaigdobonaaRfx
import Derived.Test.YthifeaigdobonaaSam
import Derived.Deep.RegionHeld3
namespace Go.Proofs.Ythifeaigdobonaa
open Go.RowKit

/-- What a script's play comes to. -/
structure PlRes where
  calls : List ACall
  trace : List Acc
  words : List Int
  err : Int

def plRes (th room : Int) (mvs : List DM.Mv) : PlRes :=
  if okD th room then (if mvs.length ≤ 65536 then ⟨((DM.init th.toNat room.toNat).runs mvs).calls, ((DM.init th.toNat room.toNat).runs mvs).trace, ((DM.init th.toNat room.toNat).runs mvs).words.map un, 0⟩ else ⟨[], [], [], 3⟩) else ⟨[], [], [], 210⟩

def PlayPost (w : World) (R : PlRes) (e : Ending) (w' : World) : Prop := ∃ v S', e = .returned (.tuple #[v, .int .i64 R.err]) ∧ RunAt v R.calls R.trace R.words S' ∧ Holds w w' S'

theorem okD_nats {th room : Int} (h : okD th room) : ∃ n r : Nat, th = n ∧ room = r := by
  unfold okD at h
  exact ⟨th.toNat, room.toNat, by omega, by omega⟩

theorem play_any {R : PlRes} (w : World) (th room : Int) (a : Option Addr) (len cap : Nat) (mvs : List DM.Mv) (hR : R = plRes th room mvs) (hm : MovesIn w a len mvs) : Calls Try.prog 12 #[dqV th room, .slice a len cap] w (PlayPost w R) := by
  subst hR
  have hl := hm.1
  unfold plRes
  by_cases h1 : okD th room
  · obtain ⟨n, r, rfl, rfl⟩ := okD_nats h1
    rw [if_pos h1]
    by_cases h2 : mvs.length ≤ 65536
    · rw [if_pos h2]
      exact play_ok w n r h1 a len cap mvs hm h2
    · rw [if_neg h2]
      exact (play_long w n r a len cap h1 (by omega) hm.2.1).mono fun e w' ⟨v, he, hr, hh⟩ => ⟨v, emp, he, hr, hh⟩
  · rw [if_neg h1]
    exact (play_no w th room a len cap h1).mono fun e w' ⟨v, he, hr, hh⟩ => ⟨v, emp, he, hr, hh⟩

theorem refplay_any {R : PlRes} (w : World) (th room : Int) (a : Option Addr) (len cap : Nat) (mvs : List DM.Mv) (hR : R = plRes th room mvs) (hm : MovesIn w a len mvs) : Calls Try.prog 13 #[dqV th room, .slice a len cap] w (PlayPost w R) := by
  subst hR
  have hl := hm.1
  unfold plRes
  by_cases h1 : okD th room
  · obtain ⟨n, r, rfl, rfl⟩ := okD_nats h1
    rw [if_pos h1]
    by_cases h2 : mvs.length ≤ 65536
    · rw [if_pos h2]
      exact refplay_ok w n r h1 a len cap mvs hm h2
    · rw [if_neg h2]
      exact (refplay_long w n r a len cap h1 (by omega) hm.2.1).mono fun e w' ⟨v, he, hr, hh⟩ => ⟨v, emp, he, hr, hh⟩
  · rw [if_neg h1]
    exact (refplay_no w th room a len cap h1).mono fun e w' ⟨v, he, hr, hh⟩ => ⟨v, emp, he, hr, hh⟩

theorem plRes_small (th room : Int) (mvs : List DM.Mv) (ha : ∀ v ∈ mvs, I64 v.arg) : (plRes th room mvs).calls.length ≤ 100000 ∧ (plRes th room mvs).trace.length ≤ 100000 ∧ (plRes th room mvs).words.length ≤ 100000 := by
  unfold plRes
  by_cases h1 : okD th room
  · rw [if_pos h1]
    by_cases h2 : mvs.length ≤ 65536
    · rw [if_pos h2]
      have hi := (DM.Inv.start th.toNat room.toNat (by unfold okD at h1; omega) (by unfold okD at h1; omega) (by unfold okD at h1; omega) (by unfold okD at h1; omega)).runs mvs ha
      have := hi.ncalls
      have := hi.ntrace
      have := hi.mv
      have := hi.len
      have := hi.room
      refine ⟨?_, ?_, ?_⟩
      · show ((DM.init th.toNat room.toNat).runs mvs).calls.length ≤ 100000; omega
      · show ((DM.init th.toNat room.toNat).runs mvs).trace.length ≤ 100000; omega
      · show (((DM.init th.toNat room.toNat).runs mvs).words.map un).length ≤ 100000; rw [List.length_map]; omega
    · rw [if_neg h2]; exact ⟨Nat.zero_le _, Nat.zero_le _, Nat.zero_le _⟩
  · rw [if_neg h1]; exact ⟨Nat.zero_le _, Nat.zero_le _, Nat.zero_le _⟩

theorem infoMv : (Try.prog.info? 27).map (fun i => (i.zero, i.size, i.bytes)) = some (some (.agg #[.int .i64 0, .int .i64 0, .int .i64 0, .int .i64 0]), 4, 32) := by kernel_rfl

theorem encMv_len (v : DM.Mv) : (encMv v).length = 4 := rfl
theorem encMv_one (l : List DM.Mv) : ∀ u ∈ rows encMv l, u.oneCell' = true := by
  intro u hu
  unfold rows at hu
  rw [List.mem_flatMap] at hu
  obtain ⟨a, _, hu⟩ := hu
  simp [encMv] at hu
  rcases hu with rfl | rfl | rfl | rfl <;> rfl

theorem MovesIn.later {W w : World} {a : Option Addr} {n : Nat} {mvs : List DM.Mv} {F : Hp} (hm : MovesIn W a n mvs) (h : Holds W w F) : MovesIn w a n mvs := by
  obtain ⟨h1, h2, h3, h4⟩ := hm
  refine ⟨h1, h2, h3, ?_⟩
  rcases h4 with h4 | ⟨b, off, h5, h6, h7⟩
  · exact .inl h4
  · exact .inr ⟨b, off, h5, Nat.lt_of_lt_of_le h6 h.size, fun k v hk j hj => by rw [h.oldCell h6]; exact h7 k v hk j hj⟩

/-- A script's cells as a source of append. -/
theorem MovesIn.src {W w : World} {a : Option Addr} {n : Nat} {mvs : List DM.Mv} {F : Hp} (hm : MovesIn W a n mvs) (h : Holds W w F) (hn : 0 < n) : ∃ ad, a = some ad ∧ ∀ j u, (rows encMv mvs)[j]? = some u → w.cell? (ad.add j) = some u := by
  obtain ⟨h1, h2, h3, h4⟩ := hm
  rcases h4 with rfl | ⟨b, off, rfl, h6, h7⟩
  · simp at h1; omega
  · refine ⟨_, rfl, fun j u hu => ?_⟩
    have hj : j < mvs.length * 4 := by
      have := (List.getElem?_eq_some_iff.1 hu).1
      rwa [rows_length encMv_len] at this
    have hk : j / 4 < mvs.length := by omega
    have hx := List.getElem?_eq_getElem hk
    have hg := rows_get (enc := encMv) (sz := 4) encMv_len mvs (j / 4) _ hx (j % 4) (by omega)
    rw [show j / 4 * 4 + j % 4 = j from by omega, hu] at hg
    have hc := h7 (j / 4) _ hx (j % 4) (by omega)
    rw [show j / 4 * 4 + j % 4 = j from by omega] at hc
    rw [add_off, h.oldCell h6, hc, hg]

/-- A script that lies in a row of the law's own, a move more behind it. -/
theorem MovesIn.row {W w : World} {g n cap : Nat} {mvs : List DM.Mv} {x : DM.Mv} {S F : Hp} (hr : RowAt 27 4 (.slice (some ⟨g, 0, none⟩) (n + 1) cap) (n + 1) (rows encMv (mvs ++ [x])) S) (h : Holds W w (S + F)) (hn : n = mvs.length) (h1 : n ≤ maxLen) (hok : ∀ v ∈ mvs, MvOK v) :
    MovesIn w (some ⟨g, 0, none⟩) n mvs := by
  refine ⟨hn, h1, hok, .inr ⟨g, 0, rfl, ?_, fun k v hk j hj => ?_⟩⟩
  · obtain ⟨g', cap', rest, e, _, _, _, rfl⟩ := hr.some (by omega)
    injection e with e _ _; injection e with e; injection e with e; subst e
    exact h.lt
  · have hk2 : (mvs ++ [x])[k]? = some v := by rw [List.getElem?_append_left (List.getElem?_eq_some_iff.1 hk).1]; exact hk
    have hr2 : RowAt 27 4 (.slice (some ⟨g, 0, none⟩) (n + 1) cap) (mvs ++ [x]).length (rows encMv (mvs ++ [x])) S := by rw [List.length_append]; simp only [List.length_cons, List.length_nil, Nat.zero_add]; rw [← hn]; exact hr
    obtain ⟨g', cap', e, _, hc⟩ := row_elem hr2 h encMv_len hk2
    injection e with e _ _; injection e with e; injection e with e; subst e
    rw [Nat.zero_add]
    exact hc j hj

/-- A run in a block, its parts behind it. -/
def RunCut2 (W : World) (R : PlRes) (F : Hp) (b : Nat) (wx : World) : Prop := ∃ a1 n1 a2 n2 a3 n3 S', RunAt (.agg #[.slice a1 R.calls.length n1, .slice a2 R.trace.length n2, .slice none 0 0, .slice a3 R.words.length n3]) R.calls R.trace R.words S' ∧
  Holds W wx (pt b (runO (.slice a1 R.calls.length n1) (.slice a2 R.trace.length n2) (.slice a3 R.words.length n3)) + (S' + F))

theorem RunAt.open {v : Value} {c : List ACall} {t : List Acc} {ws : List Int} {S : Hp} (h : RunAt v c t ws S) : ∃ a1 n1 a2 n2 a3 n3, v = .agg #[.slice a1 c.length n1, .slice a2 t.length n2, .slice none 0 0, .slice a3 ws.length n3] := by
  obtain ⟨cv, tv, wv, Sc, St, Sw, rfl, p1, p2, p3, rfl⟩ := h
  obtain ⟨a1, n1, rfl⟩ := p1.form
  obtain ⟨a2, n2, rfl⟩ := p2.form
  obtain ⟨a3, n3, rfl⟩ := p3.form
  exact ⟨a1, n1, a2, n2, a3, n3, rfl⟩

theorem run0_cells {W w : World} {b : Nat} {G : Hp} (h : Holds W w (pt b (runO (.slice none 0 0) (.slice none 0 0) (.slice none 0 0)) + G)) : w.cell? ⟨b, 0, none⟩ = some (.slice none 0 0) ∧ w.cell? ⟨b, 1, none⟩ = some (.slice none 0 0) ∧ w.cell? ⟨b, 2, none⟩ = some (.slice none 0 0) ∧ w.cell? ⟨b, 3, none⟩ = some (.slice none 0 0) ∧
    w.frozen? ⟨b, 0, none⟩ = false ∧ w.frozen? ⟨b, 1, none⟩ = false ∧ w.frozen? ⟨b, 2, none⟩ = false ∧ w.frozen? ⟨b, 3, none⟩ = false := by
  unfold runO at h
  exact ⟨by rw [h.cell]; rfl, by rw [h.cell]; rfl, by rw [h.cell]; rfl, by rw [h.cell]; rfl, h.free 0, h.free 1, h.free 2, h.free 3⟩

theorem run0_set {W w : World} {b : Nat} {G : Hp} (h : Holds W w (pt b (runO (.slice none 0 0) (.slice none 0 0) (.slice none 0 0)) + G)) (cv tv wv : Value) :
    Holds W ((((w.setCell ⟨b, 0, none⟩ cv).setCell ⟨b, 1, none⟩ tv).setCell ⟨b, 2, none⟩ (.slice none 0 0)).setCell ⟨b, 3, none⟩ wv) (pt b (runO cv tv wv) + G) := by
  unfold runO at h ⊢
  have := (((h.set 0 cv).set 1 tv).set 2 (.slice none 0 0)).set 3 wv
  simpa only [List.setIfInBounds_toArray, List.set_cons_zero, List.set_cons_succ] using this

/-- Both machines, as far as they have come. -/
def BothAt (W : World) (p : Spot) (q : RSpot) (m : DM) (F : Hp) (wr : World) : Prop := ∃ S1 S2, PRel p.bM p.bm p.kb p.bv p.bh m S1 ∧ RefAt q m S2 ∧ Holds W wr (S2 + (S1 + F))
theorem BothAt.holds {W : World} {p : Spot} {q : RSpot} {m : DM} {F : Hp} {wr : World} (h : BothAt W p q m F wr) : Holds W wr F := by
  obtain ⟨_, _, _, _, h⟩ := h
  exact h.right.right
theorem BothAt.drew {W : World} {p : Spot} {q : RSpot} {m : DM} {F : Hp} {wr : World} (h : BothAt W p q m F wr) : BothAt W p q m F wr.drew := by
  obtain ⟨S1, S2, h1, h2, h3⟩ := h
  exact ⟨S1, S2, h1, h2, h3.drew⟩
theorem BothAt.drewN {W : World} {p : Spot} {q : RSpot} {m : DM} {F : Hp} {wr : World} (h : BothAt W p q m F wr) (n : Nat) : BothAt W p q m F (wr.drewN n) := by
  obtain ⟨S1, S2, h1, h2, h3⟩ := h
  exact ⟨S1, S2, h1, h2, h3.drewN n⟩

def mv77 : DM.Mv := ⟨77, 0, 0, 0⟩
def PlaysPost (W : World) (e : Ending) (w' : World) : Prop := e = .returned (.bool true) ∧ Below W.heap.size W w'

set_option maxHeartbeats 2000000 in
set_option maxRecDepth 100000 in
theorem plays_walk (W : World) (th room : Int) (a : Option Addr) (len cap : Nat) (mvs : List DM.Mv) (hm : MovesIn W a len mvs) (hnil : a = none → len = 0 ∧ cap = 0) (hreach : len * 32 ≤ 140737488351232) :
    Calls Try.prog 3 #[dqV th room, .slice a len cap] W (PlaysPost W) := by
  obtain ⟨i0, hi, hz0, hz1, hz2⟩ := info_parts infoMv
  have hl0 : len = mvs.length := hm.1
  have hl1 : len ≤ maxLen := hm.2.1
  obtain ⟨D, hD⟩ : ∃ D, D = pt W.heap.size (.cells #[.int .i64 th, .int .i64 room] 23 (0, 0)) := ⟨_, rfl⟩
  have h1 := ((Holds.self W).new W.heap.size rfl (.cells #[.int .i64 th, .int .i64 room] 23 (0, 0))).new (W.heap.size + 1) (by simp) (.cells #[] 27 (0, 0))
  rw [← hD, Hp.add_emp] at h1
  have h1s := hm.src h1
  have hr0 : RowAt 27 4 (.slice (some ⟨W.heap.size + 1, 0, none⟩) 0 0) 0 [] (pt (W.heap.size + 1) (.cells #[] 27 (0, 0))) := RowAt.mk 27 4 (W.heap.size + 1) 0 0 [] [] (by simp) (Nat.le_refl _) (by decide) (by simp)
  have hlen : (rows encMv mvs).length = len * 4 := by rw [rows_length encMv_len, hl0]
  have HM := Lib.hid hm
  have HN := Lib.hid hnil
  have H1 := Lib.hid h1
  have HS := Lib.hid h1s
  have HR0 := Lib.hid hr0
  have HL := Lib.hid hlen
  have HL0 := Lib.hid hl0
  have hdc : ∀ wr G, Holds W wr (D + G) → wr.cell? ⟨W.heap.size, 0, none⟩ = some (.int .i64 th) ∧ wr.cell? ⟨W.heap.size, 1, none⟩ = some (.int .i64 room) := fun wr G h => by
    rw [hD] at h
    exact ⟨by rw [h.cell]; rfl, by rw [h.cell]; rfl⟩
  have HDC := Lib.hid hdc
  have HB : Hid (0 + len ≤ maxLen ∧ (0 + len) * 32 ≤ 140737488355328 ∧ len + 1 ≤ maxLen ∧ (len + 1) * 32 ≤ 140737488355328) := ⟨by omega, by omega, by unfold maxLen; omega, by omega⟩
  clear hm hnil h1 h1s hr0 hlen hl0 hl1 hD hdc
  unfold dqV
  go_enter Try.func3, Try.ntmps3
  go_wp2_with (at_builtin; go_must (refine wpList_append_flow (W := W) (F := D) rfl (.tmp 15) (.tmp 16) 24 rfl 27 i0 _ 4 32 Try.underlying24 hi hz0 hz1 hz2 rfl (by decide) _ 0 [] _ rfl HR0.out H1.out a len cap (rows encMv mvs) rfl HL.out HN.out HS.out (encMv_one _) HB.out.1 HB.out.2.1 ?k1))
  case k1 =>
    intro A1 cap1 w1 S1 r1 r2
    have R1 := Lib.hid r1
    have H2 := Lib.hid r2
    clear r1 r2 H1 HS HR0
    go_wp2_with (at_builtin; go_must (refine wpList_append_one (W := W) (F := D) rfl (.tmp 17) (.tmp 19) 24 rfl 27 i0 _ 4 32 Try.underlying24 hi hz0 hz1 hz2 rfl (by decide) (.slice A1 len cap1) len (rows encMv mvs) S1 rfl R1.out w1.heap.size 1 27 (encMv mv77) rfl rfl (by simp [encMv, mv77, Value.oneCell']) HB.out.2.2.1 HB.out.2.2.2 (H2.out.new w1.heap.size rfl (.cells (encMv mv77).toArray 27 (0, 0))) ?k2))
    case k2 =>
      intro g cap2 w2 S2 r1 r2
      have e2 : rows encMv mvs ++ encMv mv77 = rows encMv (mvs ++ [mv77]) := by simp [rows]
      rw [e2] at r1
      have hc2 : (len : Int) ≤ cap2 := by
        obtain ⟨_, _, _, e, q, _, _, _⟩ := r1.some (by omega)
        injection e with _ _ e; subst e; omega
      have R2 := Lib.hid r1
      have H3 := Lib.hid r2
      clear r1 r2 H2 R1 e2
      go_upto_region 2 with fail
      obtain ⟨c0, c1⟩ := HDC.out w2 S2 (H3.out.of_eq (Hp.add_comm _ _))
      obtain ⟨R, hR⟩ : ∃ R, R = plRes th room mvs := ⟨_, rfl⟩
      have HR := Lib.hid hR
      have lD : W.heap.size < w2.heap.size := World.block_lt_of_cell? w2 _ c0
      have HG1 : Hid (MovesIn w2.drew (some ⟨g, 0, none⟩) len mvs) := MovesIn.row R2.out H3.out.drew HL0.out HM.out.2.1 HM.out.2.2.1
      have H3b : Hid (Holds W (w2.alloc (runO (.slice none 0 0) (.slice none 0 0) (.slice none 0 0))).drew (S2 + (pt w2.heap.size (runO (.slice none 0 0) (.slice none 0 0) (.slice none 0 0)) + D))) := (H3.out.new w2.heap.size rfl (runO (.slice none 0 0) (.slice none 0 0) (.slice none 0 0))).drew.of_eq (by ac_rfl)
      have HG2 : Hid (MovesIn (w2.alloc (runO (.slice none 0 0) (.slice none 0 0) (.slice none 0 0))).drew (some ⟨g, 0, none⟩) len mvs) := MovesIn.row R2.out H3b.out HL0.out HM.out.2.1 HM.out.2.2.1
      unfold runO at H3b HG2
      clear hR
      go_cut [6, 7] from 21 to 29 (fun p6 e7 wx => ∃ b6, p6 = .pointer (some ⟨b6, 0, none⟩) ∧ e7 = .int .i64 R.err ∧ RunCut2 W R (S2 + D) b6 wx)
      case first =>
        go_region_held3 (fun w' => w'.cell? ⟨W.heap.size, 0, none⟩ = some (.int .i64 th) ∧ w'.cell? ⟨W.heap.size, 1, none⟩ = some (.int .i64 room)) (go_keep)
          (first
            | (go_at_call 12; refine (play_any w2.drew th room _ len cap2 mvs HR.out HG1.out).mono ?_; rintro e w3 ⟨v, S', rfl, hr, hh⟩; obtain ⟨a1, n1, a2, n2, a3, n3, rfl⟩ := hr.open; have h4 := H3.out.drew.trans hh; obtain ⟨k0, k1⟩ := HDC.out w3 (S' + S2) (h4.of_eq (by ac_rfl)); have h6 := run0_set (h4.new w3.heap.size rfl (runO (.slice none 0 0) (.slice none 0 0) (.slice none 0 0))) (.slice a1 R.calls.length n1) (.slice a2 R.trace.length n2) (.slice a3 R.words.length n3); obtain ⟨m0, m1⟩ := HDC.out _ (pt w3.heap.size (runO (.slice a1 R.calls.length n1) (.slice a2 R.trace.length n2) (.slice a3 R.words.length n3)) + (S' + S2)) (h6.of_eq (by ac_rfl)); unfold runO at m0 m1; have HRA := Lib.hid hr; have H4 := Lib.hid h4; clear hr hh h4 h6)
            | (go_at_call 12; refine (play_any _ th room _ len cap2 mvs HR.out HG2.out).mono ?_; rintro e w3 ⟨v, S', rfl, hr, hh⟩; obtain ⟨a1, n1, a2, n2, a3, n3, rfl⟩ := hr.open; have h4 := H3b.out.trans hh; obtain ⟨k0, k1⟩ := HDC.out w3 (S' + (S2 + pt w2.heap.size (runO (.slice none 0 0) (.slice none 0 0) (.slice none 0 0)))) (h4.of_eq (by unfold runO; ac_rfl)); have h5 := h4.of_eq (show _ = pt w2.heap.size (runO (.slice none 0 0) (.slice none 0 0) (.slice none 0 0)) + (S' + (S2 + D)) from by unfold runO; ac_rfl); obtain ⟨s0, s1, s2, s3, t0, t1, t2, t3⟩ := run0_cells h5; have h6 := run0_set h5 (.slice a1 R.calls.length n1) (.slice a2 R.trace.length n2) (.slice a3 R.words.length n3); obtain ⟨m0, m1⟩ := HDC.out _ (pt w2.heap.size (runO (.slice a1 R.calls.length n1) (.slice a2 R.trace.length n2) (.slice a3 R.words.length n3)) + (S' + S2)) (h6.of_eq (by ac_rfl)); have HRA := Lib.hid hr; have H4b := Lib.hid h6; clear hr hh h4 h5 h6))
        all_goals
          go_wp2_with fail
          go_meet
          first
            | exact ⟨_, rfl, rfl, a1, n1, a2, n2, a3, n3, S', HRA.out, H4b.out⟩
            | exact ⟨_, rfl, rfl, a1, n1, a2, n2, a3, n3, S', HRA.out, H4.out.new w3.heap.size rfl _⟩
      case rest =>
        obtain ⟨b6, rfl, rfl, a1, n1, a2, n2, a3, n3, S6, hr6, h6⟩ := hcut
        clear c0 c1 HG1 HG2 H3b lD
        obtain ⟨c0, c1⟩ := HDC.out wc (pt b6 (runO (.slice a1 R.calls.length n1) (.slice a2 R.trace.length n2) (.slice a3 R.words.length n3)) + (S6 + S2)) (h6.of_eq (by ac_rfl))
        have HR6 := Lib.hid hr6
        have H6 := Lib.hid h6
        clear hr6 h6
        go_wp2_with fail
        refine (refplay_any _ th room a len cap mvs HR.out (HM.out.later H6.out)).mono ?_
        rintro e w4 ⟨v, S8, rfl, hr8, hh⟩
        obtain ⟨d1, l1, d2, l2, d3, l3, rfl⟩ := hr8.open
        have h8 := (H6.out.trans hh).new w4.heap.size rfl (runO (.slice d1 R.calls.length l1) (.slice d2 R.trace.length l2) (.slice d3 R.words.length l3))
        have HR8 := Lib.hid hr8
        have H8 := Lib.hid h8
        clear hh hr8 h8 c0 c1
        go_upto_region 4 with fail
        obtain ⟨w5, hw5⟩ : ∃ w5, w5 = w4.alloc (.cells #[.slice d1 R.calls.length l1, .slice d2 R.trace.length l2, .slice none 0 0, .slice d3 R.words.length l3] 33) := ⟨_, rfl⟩
        rw [← hw5]
        have H9 : Hid (Holds W w5 (pt w4.heap.size (runO (.slice d1 R.calls.length l1) (.slice d2 R.trace.length l2) (.slice d3 R.words.length l3)) + (S8 + (pt b6 (runO (.slice a1 R.calls.length n1) (.slice a2 R.trace.length n2) (.slice a3 R.words.length n3)) + (S6 + (S2 + D)))))) := by rw [hw5]; exact H8.out
        generalize w4.heap.size = b8 at H9 ⊢
        clear H8 hw5 H6
        have h6 := H9.out.of_eq (show _ = pt b6 (runO (.slice a1 R.calls.length n1) (.slice a2 R.trace.length n2) (.slice a3 R.words.length n3)) + (pt b8 (runO (.slice d1 R.calls.length l1) (.slice d2 R.trace.length l2) (.slice d3 R.words.length l3)) + (S6 + (S8 + (S2 + D)))) by ac_rfl)
        have x0 : w5.cell? ⟨b6, 0, none⟩ = some (.slice a1 R.calls.length n1) := by unfold runO at h6; rw [h6.cell]; rfl
        have x1 : w5.cell? ⟨b6, 1, none⟩ = some (.slice a2 R.trace.length n2) := by unfold runO at h6; rw [h6.cell]; rfl
        have x2 : w5.cell? ⟨b6, 2, none⟩ = some (.slice none 0 0) := by unfold runO at h6; rw [h6.cell]; rfl
        have x3 : w5.cell? ⟨b6, 3, none⟩ = some (.slice a3 R.words.length n3) := by unfold runO at h6; rw [h6.cell]; rfl
        have h7 := H9.out
        have y0 : w5.cell? ⟨b8, 0, none⟩ = some (.slice d1 R.calls.length l1) := by unfold runO at h7; rw [h7.cell]; rfl
        have y1 : w5.cell? ⟨b8, 1, none⟩ = some (.slice d2 R.trace.length l2) := by unfold runO at h7; rw [h7.cell]; rfl
        have y2 : w5.cell? ⟨b8, 2, none⟩ = some (.slice none 0 0) := by unfold runO at h7; rw [h7.cell]; rfl
        have y3 : w5.cell? ⟨b8, 3, none⟩ = some (.slice d3 R.words.length l3) := by unfold runO at h7; rw [h7.cell]; rfl
        obtain ⟨F9, hF9⟩ : ∃ F9, F9 = pt b6 (runO (.slice a1 R.calls.length n1) (.slice a2 R.trace.length n2) (.slice a3 R.words.length n3)) + pt b8 (runO (.slice d1 R.calls.length l1) (.slice d2 R.trace.length l2) (.slice d3 R.words.length l3)) := ⟨_, rfl⟩
        have H10 : Hid (Holds W w5 (S6 + (S8 + (S2 + (D + F9))))) := H9.out.of_eq (by rw [hF9]; ac_rfl)
        have HSM : Hid _ := Lib.hid (plRes_small th room mvs fun v hv => (HM.out.2.2.1 v hv).2.2.1)
        rw [← HR.out] at HSM
        clear h6 h7 H9 hF9
        go_wp2_with fail
        refine (num_at _ _).mono ?_
        rintro e w' ⟨rfl, rfl⟩
        go_wp2_with fail
        refine (same_run W w5 _ _ R.calls R.trace R.words S6 S8 (S2 + (D + F9)) HSM.out.1 HSM.out.2.1 HSM.out.2.2 HR6.out HR8.out H10.out).mono ?_
        rintro e w6 ⟨rfl, h11⟩
        obtain ⟨G, hG⟩ : ∃ G, S6 + (S8 + F9) = G := ⟨_, rfl⟩
        have h12 := h11.of_eq (show _ = S2 + (D + (S6 + (S8 + F9))) by ac_rfl)
        rw [hG] at h12
        have c77 : w6.cell? ⟨g, len * 4, none⟩ = some (.int .i64 77) := by
          have hr2 : RowAt 27 4 (.slice (some ⟨g, 0, none⟩) (len + 1) cap2) (mvs ++ [mv77]).length (rows encMv (mvs ++ [mv77])) S2 := by rw [List.length_append]; simp only [List.length_cons, List.length_nil, Nat.zero_add]; rw [← HL0.out]; exact R2.out
          obtain ⟨g', cap', e, _, hc⟩ := row_elem hr2 h12 encMv_len (k := len) (x := mv77) (by rw [HL0.out]; simp)
          injection e with e _ _; injection e with e; injection e with e; subst e
          exact hc 0 (by decide)
        obtain ⟨c0, c1⟩ := HDC.out w6 (S2 + G) (h12.of_eq (by ac_rfl))
        have H12 := Lib.hid h12
        clear x0 x1 x2 x3 y0 y1 y2 y3 h11 h12 hG HR6 HR8 H10 HSM
        by_cases hok : okD th room
        · obtain ⟨n, r, rfl, rfl⟩ := okD_nats hok
          have HO := Lib.hid hok
          have hn : (n : Int) ≤ 16 := by unfold okD at hok; omega
          clear hok
          go_wp2_with fail
          refine (deque_made W w6 n r _ HO.out H12.out).mono ?_
          rintro e w7 ⟨p, rfl, S1, hP, h13⟩
          obtain ⟨c0', c1'⟩ := HDC.out w7 (S1 + (S2 + G)) (h13.of_eq (by ac_rfl))
          have HP := Lib.hid hP
          have H13 := Lib.hid h13
          clear h13 hP c0 c1 c77
          go_wp2_with fail
          refine (check_at _ n r).mono ?_
          rintro e w8 ⟨rfl, hb⟩
          rw [decide_eq_true HO.out]
          have h14 := H13.out.of_below hb
          obtain ⟨c0, c1⟩ := HDC.out w8 (S1 + (S2 + G)) (h14.of_eq (by ac_rfl))
          have H14 := Lib.hid h14
          clear hb c0' c1' h14 H13
          go_wp2_with fail
          refine (num_at _ _).mono ?_
          rintro e w' ⟨rfl, rfl⟩
          go_wp2_with fail
          refine (ref_made W w8 n r _ HO.out H14.out).mono ?_
          rintro e w9 ⟨q, rfl, _, SR, hRef, h15⟩
          have HB0 : Hid (BothAt W p q ((DM.init n r).runs (mvs.take 0)) (S2 + (D + G)) w9) := ⟨S1, SR, HP.out, hRef, h15⟩
          clear hRef h15 c0 c1
          unfold rptr
          go_wp2_with fail
          go_loopw [13, 14] (fun i _ wr => ∃ k : Nat, k ≤ len ∧ i = .int .i64 k ∧ BothAt W p q ((DM.init n r).runs (mvs.take k)) (S2 + (D + G)) wr) (fun i _ _ => len - (intOf i).toNat)
          case atStart => exact ⟨0, Nat.zero_le _, rfl, HB0.out⟩
          case round =>
            obtain ⟨k, hk, rfl, hB⟩ := hrel
            clear HB0
            by_cases hlt : k < len
            · have hx := List.getElem?_eq_getElem (show k < mvs.length by rw [← HL0.out]; exact hlt)
              generalize mvs[k] = v at hx
              obtain ⟨b, off, rfl, hvok, e0, e1, e2, e3⟩ := HM.out.at hB.holds hx
              have hr2 : RowAt 27 4 (.slice (some ⟨g, 0, none⟩) (len + 1) cap2) (mvs ++ [mv77]).length (rows encMv (mvs ++ [mv77])) S2 := by rw [List.length_append]; simp only [List.length_cons, List.length_nil, Nat.zero_add]; rw [← HL0.out]; exact R2.out
              have hx2 : (mvs ++ [mv77])[k]? = some v := by rw [List.getElem?_append_left (List.getElem?_eq_some_iff.1 hx).1]; exact hx
              have hgc : ∀ wr, Holds W wr (S2 + (D + G)) → wr.cell? ⟨g, k * 4, none⟩ = some (.int .i64 v.thread) ∧ wr.cell? ⟨g, k * 4 + 1, none⟩ = some (.int .i64 v.op) ∧ wr.cell? ⟨g, k * 4 + 2, none⟩ = some (.int .i64 v.arg) ∧ wr.cell? ⟨g, k * 4 + 3, none⟩ = some (.int .i64 v.data) := by
                intro wr h
                obtain ⟨g', cap', e, _, hc⟩ := row_elem hr2 h encMv_len hx2
                injection e with e _ _; injection e with e; injection e with e; subst e
                exact ⟨hc 0 (by decide), hc 1 (by decide), hc 2 (by decide), hc 3 (by decide)⟩
              obtain ⟨f0, f1, f2, f3⟩ := hgc wr hB.holds
              have hac : ∀ wr, Holds W wr (S2 + (D + G)) → wr.cell? ⟨b, off + k * 4, none⟩ = some (.int .i64 v.thread) ∧ wr.cell? ⟨b, off + k * 4 + 1, none⟩ = some (.int .i64 v.op) ∧ wr.cell? ⟨b, off + k * 4 + 2, none⟩ = some (.int .i64 v.arg) ∧ wr.cell? ⟨b, off + k * 4 + 3, none⟩ = some (.int .i64 v.data) := by
                intro wr h
                obtain ⟨b', off', e, _, q0, q1, q2, q3⟩ := HM.out.at h hx
                injection e with e; injection e with eb eo; subst eb; subst eo
                exact ⟨q0, q1, q2, q3⟩
              have HAC := Lib.hid hac
              have HGC := Lib.hid hgc
              have HX := Lib.hid hx
              have HV := Lib.hid hvok
              have HB1 := Lib.hid hB
              have bk : (k : Int) < len := by omega
              have bk1 : (k : Int) < (len : Int) + 1 := by omega
              clear hr2 hx2 hgc hac hx hvok hB
              go_upto_region 15 with fail
              go_cut [108] from 85 to 107 (fun c wx => c = .bool false ∧ BothAt W p q ((DM.init n r).runs (mvs.take (k + 1))) (S2 + (D + G)) wx)
              case first =>
                obtain ⟨T1, T2, hP1, hR1, hT⟩ := HB1.out.drew
                obtain ⟨m, hm⟩ : ∃ m, m = (DM.init n r).runs (mvs.take k) := ⟨_, rfl⟩
                rw [← hm] at hP1 hR1
                have hinv := hP1.1
                have hfin : (m.move v).1 = (DM.init n r).runs (mvs.take (k + 1)) := by rw [DM.runs_take _ _ HX.out, hm]
                have hPl : Plays W p m (T2 + (S2 + (D + G))) wr.drew := ⟨T1, hP1, hT.of_eq (by ac_rfl)⟩
                have HP1 := Lib.hid hPl
                have HR1 := Lib.hid hR1
                have HI := Lib.hid hinv
                have HFN := Lib.hid hfin
                clear hP1 hR1 hT hm hinv hfin hPl HB1
                go_region_held3 (fun w' => w'.cell? ⟨g, k * 4, none⟩ = some (.int .i64 v.thread) ∧ w'.cell? ⟨g, k * 4 + 1, none⟩ = some (.int .i64 v.op) ∧ w'.cell? ⟨g, k * 4 + 2, none⟩ = some (.int .i64 v.arg) ∧ w'.cell? ⟨g, k * 4 + 3, none⟩ = some (.int .i64 v.data) ∧ w'.cell? ⟨b, off + k * 4, none⟩ = some (.int .i64 v.thread) ∧ w'.cell? ⟨b, off + k * 4 + 1, none⟩ = some (.int .i64 v.op) ∧ w'.cell? ⟨b, off + k * 4 + 2, none⟩ = some (.int .i64 v.arg) ∧ w'.cell? ⟨b, off + k * 4 + 3, none⟩ = some (.int .i64 v.data)) (go_keep)
                  (first
                    | (go_at_call 19; refine (deque_mv W wr.drew p v HV.out.2.2.1 HP1.out).mono ?_; rintro e w11 ⟨rfl, T1', hP2, h2⟩; obtain ⟨z0, z1, z2, z3⟩ := HGC.out w11 h2.right.right; obtain ⟨y0, y1, y2, y3⟩ := HAC.out w11 h2.right.right; have HP2 := Lib.hid hP2; have H2 := Lib.hid h2; clear hP2 h2)
                    | (go_at_call 20; refine (ref_mv W _ q m T2 (T1' + (S2 + (D + G))) v HI.out HR1.out (H2.out.of_eq (by ac_rfl))).mono ?_; rintro e w12 ⟨rfl, T2', hR2, h3⟩; obtain ⟨z0, z1, z2, z3⟩ := HGC.out w12 h3.right.right; obtain ⟨y0, y1, y2, y3⟩ := HAC.out w12 h3.right.right; have HR2 := Lib.hid hR2; have H3 := Lib.hid h3; clear hR2 h3))
                all_goals
                  go_wp2_with fail
                  go_meet
                  exact ⟨rfl, T1', T2', by rw [← HFN.out]; exact HP2.out, by rw [← HFN.out]; exact HR2.out, H3.out⟩
              case rest =>
                obtain ⟨rfl, hB2⟩ := hcut
                obtain ⟨y0, y1, y2, y3⟩ := HAC.out _ hB2.holds
                clear HB1 e0 e1 e2 e3 f0 f1 f2 f3 y1 y2 y3
                obtain ⟨c0, c1⟩ := HDC.out _ (S2 + G) (hB2.holds.of_eq (by ac_rfl))
                have HB3 := Lib.hid hB2
                obtain ⟨m, hm⟩ : ∃ m, m = (DM.init n r).runs (mvs.take (k + 1)) := ⟨_, rfl⟩
                rw [← hm] at hB2 HB3
                have hal : m.all.length = n := by rw [hm, DM.runs_len]; simp [DM.init]
                obtain ⟨T1, T2, hP1, hR1, hT⟩ := hB2
                obtain ⟨wa, wk, ca, ck, ta, tk, l0, l1, l2, l3, l4, l5, l6, l7, l8, fz, lbr⟩ := hR1.cells hT
                have hPl : ∀ nq, Plays W p m (T2 + (S2 + (D + G))) (World.drewN wc nq) := fun nq => ⟨T1, hP1, (hT.drewN nq).of_eq (by ac_rfl)⟩
                have HPL := Lib.hid hPl
                have HMM := Lib.hid hm
                have hth := fun t x hx => (hR1.th hT (t := t) (x := x) hx).1 0 (by decide)
                rw [hal] at l3
                have HAL := Lib.hid hal
                have HTH := Lib.hid hth
                clear l0 l1 l2 l4 l5 l6 l7 l8 fz lbr hPl hP1 hR1 hT hm hal hth c1
                rw [HMM.out] at HB3
                go_upto_region 18 with fail
                by_cases q0 : v.thread < 0
                · have d0 : decide (0 ≤ v.thread) = false := decide_eq_false (by omega)
                  go_quiet (fail)
                  have HB4 := Lib.hid (HB3.out.drewN nq)
                  go_wp2_with fail
                  go_roundw
                  case rel => exact ⟨k + 1, by omega, by go_num, HB4.out⟩
                  case measure => simp [intOf]; omega
                · by_cases q1 : (n : Int) ≤ v.thread
                  · have d0 : decide (0 ≤ v.thread) = true := decide_eq_true (by omega)
                    have d1 : decide (v.thread < (n : Int)) = false := decide_eq_false (by omega)
                    go_quiet (fail)
                    have HB4 := Lib.hid (HB3.out.drewN nq)
                    go_wp2_with fail
                    go_roundw
                    case rel => exact ⟨k + 1, by omega, by go_num, HB4.out⟩
                    case measure => simp [intOf]; omega
                  · obtain ⟨t, ht⟩ := Int.eq_ofNat_of_zero_le (show 0 ≤ v.thread by omega)
                    have htl : t < m.all.length := by rw [HAL.out]; omega
                    have hxt := List.getElem?_eq_getElem htl
                    generalize m.all[t] = x at hxt
                    have hbz : m.busy t = decide (0 ≤ x.call) := by
                      unfold DM.busy
                      rw [Int.toNat_natCast, DM.th_of hxt]
                      exact decide_eq_decide.2 ⟨fun h => h.2.2, fun h => ⟨by omega, by omega, h⟩⟩
                    have hcl := HTH.out t x hxt
                    simp only [encTh, List.getElem?_cons_zero, Nat.add_zero] at hcl
                    have hby : ∀ nq, Calls Try.prog 21 #[.pointer (some ⟨p.bM, 0, none⟩), .int .i64 (t : Int)] (World.drewN wc nq) fun e w' => World.drewN wc nq = w' ∧ e = .returned (.bool (decide (0 ≤ x.call))) := fun nq => by
                      rw [← hbz]; exact deque_bz W _ p t (HPL.out nq)
                    have HBY := Lib.hid hby
                    have d0 : decide (0 ≤ (t : Int)) = true := decide_eq_true (by omega)
                    have d1 : decide ((t : Int) < (n : Int)) = true := decide_eq_true (by omega)
                    have d2 : (t : Int) < (n : Int) := by omega
                    have HT2 := Lib.hid hxt
                    clear htl hxt hbz hby
                    rw [ht]
                    go_quiet ((go_at_call 21; exact quiet_fact (HBY.out _)))
                    have HB4 := Lib.hid (HB3.out.drewN nq)
                    go_wp2_with fail
                    go_roundw
                    case rel => exact ⟨k + 1, by omega, by go_num, HB4.out⟩
                    case measure => simp [intOf]; omega
            · have hke : k = len := by omega
              rw [List.take_of_length_le (by rw [hke, HL0.out]; exact Nat.le_refl _)] at hB
              obtain ⟨m, hm⟩ : ∃ m, m = (DM.init n r).runs mvs := ⟨_, rfl⟩
              rw [← hm] at hB
              obtain ⟨T1, T2, hP1, hR1, hT⟩ := hB
              have hinv := hP1.1
              have hPl : Plays W p m (T2 + (S2 + (D + G))) wr := ⟨T1, hP1, hT.of_eq (by ac_rfl)⟩
              have HPl := Lib.hid hPl
              have HR1 := Lib.hid hR1
              have HI := Lib.hid hinv
              clear hP1 hR1 hT hm hinv hPl hke HR
              go_wp2_with fail
              refine (deque_run W wr p HPl.out).mono ?_
              rintro e w11 ⟨v1, U1, rfl, hr1, U2, hP2, h2⟩
              have HV1 := Lib.hid hr1
              have H2 := Lib.hid h2
              clear hr1 hP2 h2
              go_wp2_with fail
              refine (ref_told W w11 q m T2 (U2 + (U1 + (S2 + (D + G)))) HI.out HR1.out (H2.out.of_eq (by ac_rfl))).mono ?_
              rintro e w12 ⟨v2, U3, rfl, hr2, h3⟩
              have HV2 := Lib.hid hr2
              have H3 := Lib.hid h3
              clear hr2 h3
              have hs1 := HI.out.ncalls
              have hs2 := HI.out.ntrace
              have hs3 := HI.out.mv
              have hs4 := HI.out.len
              have hs5 := HI.out.room
              have HSZ : Hid (m.calls.length ≤ 100000 ∧ m.trace.length ≤ 100000 ∧ (m.words.map un).length ≤ 100000) := ⟨by omega, by omega, by rw [List.length_map]; omega⟩
              clear hs1 hs2 hs3 hs4 hs5
              go_wp2_with fail
              refine (same_run W w12 v1 v2 m.calls m.trace (m.words.map un) U1 U3 (T2 + (U2 + (S2 + (D + G)))) HSZ.out.1 HSZ.out.2.1 HSZ.out.2.2 HV1.out HV2.out (H3.out.of_eq (by ac_rfl))).mono ?_
              rintro e w13 ⟨rfl, h4⟩
              have H4 := Lib.hid h4
              clear h4
              go_wp2_with fail
              go_ret
              exact ⟨rfl, H4.out.below⟩
        · have HO := Lib.hid hok
          clear hok
          go_wp2_with fail
          refine (deque_new_no W w6 th room _ HO.out H12.out).mono ?_
          rintro e w7 ⟨rfl, h13⟩
          obtain ⟨c0', c1'⟩ := HDC.out w7 (S2 + G) (h13.of_eq (by ac_rfl))
          have H13 := Lib.hid h13
          clear h13 c0 c1 c77
          go_wp2_with fail
          refine (check_at _ th room).mono ?_
          rintro e w8 ⟨rfl, hb⟩
          rw [decide_eq_false HO.out]
          have H14 := Lib.hid (H13.out.of_below hb)
          clear hb c0' c1'
          go_wp2_with fail
          refine (num_at _ _).mono ?_
          rintro e w' ⟨rfl, rfl⟩
          go_wp2_with fail
          go_ret
          exact ⟨rfl, H14.out.below⟩

end Go.Proofs.Ythifeaigdobonaa
