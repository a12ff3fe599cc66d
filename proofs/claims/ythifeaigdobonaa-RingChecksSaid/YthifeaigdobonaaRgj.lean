/- ring.Play: a script's run; the laws' small, steps and fit; 'awake'. -/
import Derived.Test.YthifeaigdobonaaRgi
import Derived.Test.YthifeaigdobonaaAwk
import Derived.Test.YthifeaigdobonaaAla
namespace Go.Proofs.Ythifeaigdobonaa
open Go.RowKit

def rplayF (w : World) (n cells : Nat) : Hp := pt (w.heap.size + 1) (.cells #[.slice none 0 0, .slice none 0 0, .slice none 0 0, .slice none 0 0] 33 (0, 0)) + (pt w.heap.size (.cells #[.int .i64 (n : Int), .int .i64 (cells : Int)] 75 (0, 0)) + emp)

set_option maxHeartbeats 1000000 in
set_option maxRecDepth 100000 in
theorem rplay_ok (w : World) (n cells : Nat) (hok : okR n cells) (a : Option Addr) (len cap : Nat) (mvs : List DM.Mv) (hm : MovesIn w a len mvs) (hl : mvs.length ≤ 65536) :
    Calls Try.prog 39 #[rgV n cells, .slice a len cap] w fun e w' => ∃ v S', e = .returned (.tuple #[v, .int .i64 0]) ∧
      RunAt v ((RM.init n cells).runs mvs).calls ((RM.init n cells).runs mvs).trace (((RM.init n cells).runs mvs).words.map un) S' ∧ Holds w w' S' := by
  have hlen : len = mvs.length := hm.1
  have hle : (len : Int) ≤ 65536 := by omega
  have h1 := ((Holds.self w).new w.heap.size rfl (.cells #[.int .i64 (n : Int), .int .i64 (cells : Int)] 75 (0, 0))).new (w.heap.size + 1) (by simp) run0
  unfold run0 at h1
  have c0 := h1.right.cell 0
  have c1 := h1.right.cell 1
  have HM := Lib.hid hm
  have HL := Lib.hid hlen
  have HO := Lib.hid hok
  have H1 := Lib.hid h1
  clear hm hlen hok h1
  unfold rgV
  go_enter Try.func39, Try.ntmps39
  go_wp2_with fail
  refine (rg_made w _ n cells _ HO.out H1.out).mono ?_
  rintro e w1 ⟨p, rfl, hp⟩
  have HP := Lib.hid hp
  clear hp c0 c1
  go_wp2_with fail
  go_loopw [25] (fun i wr => ∃ k : Nat, k ≤ len ∧ i = .int .i64 k ∧ RgPlays w p ((RM.init n cells).runs (mvs.take k)) (rplayF w n cells) wr) (fun i _ => len - (intOf i).toNat)
  case atStart => exact ⟨0, Nat.zero_le _, rfl, HP.out⟩
  case round =>
    obtain ⟨k, hk, rfl, hp⟩ := hrel
    clear HP
    by_cases hlt : k < len
    · have hx := List.getElem?_eq_getElem (show k < mvs.length by rw [← HL.out]; exact hlt)
      generalize mvs[k] = v at hx
      obtain ⟨b, off, rfl, hok, e0, e1, e2, e3⟩ := HM.out.at hp.holds hx
      have HX := Lib.hid hx
      have HP := Lib.hid (hp.alloc (.cells (encMv v).toArray 27 (0, 0)))
      have HV := Lib.hid hok.2.2.1
      clear hx hp hok
      go_wp2_with fail
      refine (rg_mv w _ p v HV.out HP.out).mono ?_
      rintro e w' ⟨rfl, hp'⟩
      have HP' : Hid (RgPlays w p ((RM.init n cells).runs (mvs.take (k + 1))) (rplayF w n cells) w') := by rw [RM.runs_take _ _ HX.out]; exact hp'
      clear hp'
      go_wp2_with fail
      go_roundw
      case rel => exact ⟨k + 1, by omega, by go_num, HP'.out⟩
      case measure => simp [intOf]; omega
    · have : k = len := by omega
      subst this
      have e := HL.out
      rw [List.take_of_length_le (by omega)] at hp
      have HP := Lib.hid hp
      clear hp e
      go_wp2_with fail
      refine (rg_run w _ p HP.out).mono ?_
      rintro e w2 ⟨v, S', rfl, hR, hp2⟩
      obtain ⟨cv, tv, wv, Sc, St, Sw, rfl, q1, q2, q3, rfl⟩ := hR
      obtain ⟨ca, cc, rfl⟩ := q1.form
      obtain ⟨ta, tc, rfl⟩ := q2.form
      obtain ⟨wa, wc, rfl⟩ := q3.form
      have h2 := hp2.holds.of_eq (show _ = pt (w.heap.size + 1) (.cells #[.slice none 0 0, .slice none 0 0, .slice none 0 0, .slice none 0 0] 33 (0, 0)) + (Sc + (St + Sw) + (pt w.heap.size (.cells #[.int .i64 (n : Int), .int .i64 (cells : Int)] 75 (0, 0)))) from by unfold rplayF; rw [Hp.add_emp]; ac_rfl)
      have k0 : w2.cell? ⟨w.heap.size + 1, 0, none⟩ = some (.slice none 0 0) := by rw [h2.cell]; rfl
      have k1 : w2.cell? ⟨w.heap.size + 1, 1, none⟩ = some (.slice none 0 0) := by rw [h2.cell]; rfl
      have k2 : w2.cell? ⟨w.heap.size + 1, 2, none⟩ = some (.slice none 0 0) := by rw [h2.cell]; rfl
      have k3 : w2.cell? ⟨w.heap.size + 1, 3, none⟩ = some (.slice none 0 0) := by rw [h2.cell]; rfl
      have f0 := h2.free 0
      have f1 := h2.free 1
      have f2 := h2.free 2
      have f3 := h2.free 3
      have H2 := Lib.hid h2
      have HR := Lib.hid (show RunAt _ _ _ _ (Sc + (St + Sw)) from ⟨_, _, _, Sc, St, Sw, rfl, q1, q2, q3, rfl⟩)
      rw [List.length_map] at HR
      clear h2 hp2 q1 q2 q3 HP
      go_wp2_with fail
      have h3 := (((((H2.out.set 0 (.slice ca ((RM.init n cells).runs mvs).calls.length cc)).set 1 (.slice ta ((RM.init n cells).runs mvs).trace.length tc)).set 2 (.slice none 0 0)).set 3 (.slice wa ((RM.init n cells).runs mvs).words.length wc)).of_eq (show _ = pt (w.heap.size + 1) (.cells #[.slice ca ((RM.init n cells).runs mvs).calls.length cc, .slice ta ((RM.init n cells).runs mvs).trace.length tc, .slice none 0 0, .slice wa ((RM.init n cells).runs mvs).words.length wc] 33 (0, 0)) + (Sc + (St + Sw) + (pt w.heap.size (.cells #[.int .i64 (n : Int), .int .i64 (cells : Int)] 75 (0, 0)))) from by simp only [List.setIfInBounds_toArray, List.set_cons_zero, List.set_cons_succ]))
      refine bodyPost_ret (v := .tuple #[.agg #[.slice ca ((RM.init n cells).runs mvs).calls.length cc, .slice ta ((RM.init n cells).runs mvs).trace.length tc, .slice none 0 0, .slice wa ((RM.init n cells).runs mvs).words.length wc], .int .i64 0]) ?_ rfl ?_
      · exact results_cell_two (ty := 33) (p := 4) (t := 5) (by rfl) _ _ (w.heap.size + 1) 33 _ (0, 0) _ (by rfl) h3.at Try.underlying33 rfl (by kernel_rfl)
      · exact ⟨_, _, rfl, HR.out, h3.right.left⟩


theorem small_at (w : World) : Calls Try.prog 68 #[] w fun e w' => e = .returned (rgV 2 2) ∧ Below w.heap.size w w' := by
  go_enter Try.func68, Try.ntmps68
  go_wp2_with fail
  refine bodyPost_ret (v := rgV 2 2) ?_ rfl ?_
  · exact results_cell_row rfl _ _ w.heap.size 75 _ (0, 0) _ rfl (World.alloc_heap_new _ _) Try.underlying75 rfl (by kernel_rfl)
  · exact ⟨rfl, (Below.refl _ _).alloc (Nat.le_refl _) _⟩

theorem encMv_l4 (v : DM.Mv) : (encMv v).length = 4 := rfl
theorem infoMove : (Try.prog.info? 27).map (fun i => (i.zero, i.size, i.bytes)) = some (some (.agg #[.int .i64 0, .int .i64 0, .int .i64 0, .int .i64 0]), 4, 32) := by kernel_rfl

set_option maxHeartbeats 1000000 in
set_option maxRecDepth 100000 in
theorem steps_at (W w : World) (v : Value) (mvs : List DM.Mv) (th : Int) (n : Nat) (S F : Hp) (hb : mvs.length + n ≤ 1000000) (hr : RowAt 27 4 v mvs.length (rows encMv mvs) S) (h : Holds W w (S + F)) :
    Calls Try.prog 42 #[v, .int .i64 th, .int .i64 (n : Int)] w fun e w' => ∃ v' S', e = .returned v' ∧ RowAt 27 4 v' (mvs.length + n) (rows encMv (mvs ++ List.replicate n (stepMv th))) S' ∧ Holds W w' (S' + F) := by
  obtain ⟨i0, hi, hz0, hz1, hz2⟩ := info_parts infoMove
  have hr0 : RowAt 27 4 v (mvs.length + 0) (rows encMv (mvs ++ List.replicate 0 (stepMv th))) S := by simpa using hr
  have HR := Lib.hid hr0
  have HH := Lib.hid h
  have HBD := Lib.hid hb
  clear hr h hr0 hb
  go_enter Try.func42, Try.ntmps42
  go_wp2_with fail
  go_loopw [0, 7] (fun u i wr => ∃ k : Nat, k ≤ n ∧ i = .int .i64 k ∧ ∃ Su, RowAt 27 4 u (mvs.length + k) (rows encMv (mvs ++ List.replicate k (stepMv th))) Su ∧ Holds W wr (Su + F)) (fun _ i _ => n - (intOf i).toNat)
  case atStart => exact ⟨0, Nat.zero_le _, rfl, S, HR.out, HH.out⟩
  case round =>
    obtain ⟨k, hk, rfl, Su, hu, hh⟩ := hrel
    clear HH HR
    obtain ⟨ua, uc, rfl⟩ := hu.form
    by_cases hlt : k < n
    · have hkb : (k : Int) ≤ 1000000 := by have := HBD.out; omega
      have hnb : (k : Int) < n := by omega
      have e1 : rows encMv (mvs ++ List.replicate (k + 1) (stepMv th)) = rows encMv (mvs ++ List.replicate k (stepMv th)) ++ encMv (stepMv th) := by
        rw [List.replicate_succ', ← List.append_assoc]; simp [rows]
      have E1 := Lib.hid e1
      have HU := Lib.hid hu
      have HH := Lib.hid hh
      obtain ⟨L, hL⟩ : ∃ L, L = mvs.length + k := ⟨_, rfl⟩
      have hLb : L ≤ 1000000 := by have := HBD.out; omega
      rw [← hL] at HU ⊢
      have HLL := Lib.hid hL
      clear e1 hu hh hL
      go_wp2_with (at_builtin; go_must (refine wpList_append_one (W := W) (F := F) rfl (.tmp 13) (.tmp 16) 24 rfl 27 i0 _ 4 32 Try.underlying24 hi hz0 hz1 hz2 rfl (by decide) (.slice ua L uc) L (rows encMv (mvs ++ List.replicate k (stepMv th))) Su rfl HU.out wr.heap.size 1 27 (encMv (stepMv th)) rfl rfl (by simp [encMv, stepMv, Value.oneCell']) ?b1 ?b2 (HH.out.new wr.heap.size rfl (.cells (encMv (stepMv th)).toArray 27 (0, 0))) ?kk))
      case b1 => unfold maxLen; omega
      case b2 => omega
      case kk =>
        intro g cap w3 S3 r1 r2
        rw [← E1.out] at r1
        have R1 := Lib.hid r1
        have R2 := Lib.hid r2
        clear r1 r2 HH HU
        go_wp2_with fail
        go_roundw
        case rel => exact ⟨k + 1, by omega, by go_num, S3, by have := R1.out; rw [HLL.out] at this; rw [HLL.out]; exact this, R2.out⟩
        case measure => simp [intOf]; omega
    · have hke : k = n := by omega
      subst hke
      have HU := Lib.hid hu
      have HH := Lib.hid hh
      clear hu hh
      go_wp2_with fail
      go_ret
      exact ⟨_, Su, rfl, HU.out, HH.out⟩

theorem MovesIn.own {W w : World} {v : Value} {mvs : List DM.Mv} {S F : Hp} (hr : RowAt 27 4 v mvs.length (rows encMv mvs) S) (h : Holds W w (S + F)) (h1 : mvs.length ≤ maxLen) (hok : ∀ v ∈ mvs, MvOK v) (hne : mvs ≠ []) :
    ∃ a cap, v = .slice a mvs.length cap ∧ MovesIn w a mvs.length mvs := by
  obtain ⟨g, cap, rest, rfl, _, _, _, rfl⟩ := hr.some (List.length_pos_iff.2 hne)
  refine ⟨_, cap, rfl, rfl, h1, hok, .inr ⟨g, 0, rfl, h.lt, fun k v hk j hj => ?_⟩⟩
  obtain ⟨g', cap', e, _, hc⟩ := row_elem hr h encMv_l4 hk
  injection e with e _ _; injection e with e; injection e with e; subst e
  rw [Nat.zero_add]
  exact hc j hj

end Go.Proofs.Ythifeaigdobonaa
