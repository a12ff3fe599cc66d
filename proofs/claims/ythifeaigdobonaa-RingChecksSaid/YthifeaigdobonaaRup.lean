/- Machine.Run: the run so far, in memory of its own: the walk. -/
import Derived.Test.YthifeaigdobonaaRun
namespace Go.Proofs.Ythifeaigdobonaa
open Go.RowKit Go.Shelf
attribute [local go_sem] Oper.semAt_some

set_option maxRecDepth 100000 in
set_option maxHeartbeats 2000000 in
theorem run_at (W w : World) (bM bm : Nat) (kit : Value) (words : List Int) (log : List Acc) (moves : Int) (calls : List ACall) (seats : List ASeat) (S F : Hp)
    (hn : 0 < seats.length) (hnc : calls.length ≤ 100000) (hlog : log.length ≤ 1000000) (hw : words.length ≤ 8192) (hS : MachAt bM bm kit words log moves calls seats S) (h : Holds W w (S + F)) :
    Calls Try.prog 22 #[.pointer (some ⟨bM, 0, none⟩)] w (RunPost W calls log words (S + F)) := by
  obtain ⟨th, nw, mv, us, cv, sv, Sc, Ss, Sm, hcv, hsv, hm, rfl⟩ := hS
  obtain ⟨ats, caps, rfl⟩ := hsv.form
  obtain ⟨ac, capc, rfl⟩ := hcv.form
  have q0 : (((seats.length : Nat) : Int) == 0) = false := by rw [beq_eq_false_iff_ne]; omega
  have h1 := h.of_eq (show _ = pt bM (machO bm th nw nilp nilp us (.slice none 0 0) kit (.slice ats seats.length caps) moves (.slice ac calls.length capc)) + (Sc + (Ss + Sm) + F) from by ac_rfl)
  unfold machO at h1
  have c8 : w.cell? ⟨bM, 8, none⟩ = some (.slice ats seats.length caps) := by rw [h1.cell]; rfl
  have lM := h1.lt
  have d10 : w.cell? ⟨bM, 10, none⟩ = some (.slice ac calls.length capc) := by rw [h1.cell]; rfl
  have d6 : w.cell? ⟨bM, 6, none⟩ = some (.slice none 0 0) := by rw [h1.cell]; rfl
  have d0 : w.cell? ⟨bM, 0, none⟩ = some (.pointer (some ⟨bm, 0, none⟩)) := by rw [h1.cell]; rfl
  have HH := Lib.hid (h1.new w.heap.size rfl run0).drew
  have HC := Lib.hid hcv
  have HM := Lib.hid hm
  have HHb := Lib.hid ((h.new w.heap.size rfl run0).new (w.heap.size + 1) (by simp) run0).drew
  clear h h1 hcv hsv hm
  refine (callsIn_wide (n := 5)).1 (callsIn_of_wp_marks (f := 22) Try.func22 rfl trivial ?_ rfl)
  refine wpIn_wide.2 ?_
  simp only [Try.ntmps22, List.size_toArray, List.length_cons, List.length_nil, Nat.reduceAdd, Nat.reduceSub, Array.replicate_succ, Array.replicate_zero, List.push_toArray, List.append_toArray, List.nil_append, List.cons_append]
  go_upto_region 3 with fail
  clear c8
  go_cut [3] from 17 to 34 (fun v wx => RunCut W calls words w.heap.size (pt bM (machO bm th nw nilp nilp us (.slice none 0 0) kit (.slice ats seats.length caps) moves (.slice ac calls.length capc)) + (Sc + (Ss + Sm) + F)) v wx)
  case first =>
    go_region_held3 (fun w' => w'.cell? ⟨bM, 10, none⟩ = some (.slice ac calls.length capc) ∧ w'.cell? ⟨bM, 6, none⟩ = some (.slice none 0 0) ∧ w'.cell? ⟨bM, 0, none⟩ = some (.pointer (some ⟨bm, 0, none⟩))) (go_keep)
      (first
        | (go_at_call 57; refine (clone_call W _ _ calls.length (rows encCall calls) Sc (pt w.heap.size run0 + (pt bM (machO bm th nw nilp nilp us (.slice none 0 0) kit (.slice ats seats.length caps) moves (.slice ac calls.length capc)) + (Ss + Sm) + F)) (by omega) (encCall_one _) HC.out (HH.out.of_eq (by ac_rfl))).mono ?_; rintro e w2 ⟨v1, Sc2, rfl, hr1, h1⟩; obtain ⟨a1, c1, rfl⟩ := hr1.form; have k10 : w2.cell? ⟨bM, 10, none⟩ = some (.slice ac calls.length capc) := by {rw [(h1.of_eq (show _ = pt bM (machO bm th nw nilp nilp us (.slice none 0 0) kit (.slice ats seats.length caps) moves (.slice ac calls.length capc)) + (Sc2 + (Sc + (pt w.heap.size run0 + (Ss + Sm + F)))) from by ac_rfl)).cell]; rfl}; have k6 : w2.cell? ⟨bM, 6, none⟩ = some (.slice none 0 0) := by {rw [(h1.of_eq (show _ = pt bM (machO bm th nw nilp nilp us (.slice none 0 0) kit (.slice ats seats.length caps) moves (.slice ac calls.length capc)) + (Sc2 + (Sc + (pt w.heap.size run0 + (Ss + Sm + F)))) from by ac_rfl)).cell]; rfl}; have k0 : w2.cell? ⟨bM, 0, none⟩ = some (.pointer (some ⟨bm, 0, none⟩)) := by {rw [(h1.of_eq (show _ = pt bM (machO bm th nw nilp nilp us (.slice none 0 0) kit (.slice ats seats.length caps) moves (.slice ac calls.length capc)) + (Sc2 + (Sc + (pt w.heap.size run0 + (Ss + Sm + F)))) from by ac_rfl)).cell]; rfl}; have HR1 := Lib.hid hr1; have H1 := Lib.hid h1; clear hr1 h1 d10 d6 d0)
        | (go_at_call 57; refine (clone_call W _ _ calls.length (rows encCall calls) Sc (pt (w.heap.size + 1) run0 + pt w.heap.size run0 + (pt bM (machO bm th nw nilp nilp us (.slice none 0 0) kit (.slice ats seats.length caps) moves (.slice ac calls.length capc)) + (Ss + Sm) + F)) (by omega) (encCall_one _) HC.out ((HHb.out).of_eq (by ac_rfl))).mono ?_; rintro e w2 ⟨v1, Sc2, rfl, hr1, h1⟩; obtain ⟨a1, c1, rfl⟩ := hr1.form; have k10 : w2.cell? ⟨bM, 10, none⟩ = some (.slice ac calls.length capc) := by {rw [(h1.of_eq (show _ = pt bM (machO bm th nw nilp nilp us (.slice none 0 0) kit (.slice ats seats.length caps) moves (.slice ac calls.length capc)) + (Sc2 + (Sc + (pt (w.heap.size + 1) run0 + pt w.heap.size run0 + (Ss + Sm + F)))) from by ac_rfl)).cell]; rfl}; have k6 : w2.cell? ⟨bM, 6, none⟩ = some (.slice none 0 0) := by {rw [(h1.of_eq (show _ = pt bM (machO bm th nw nilp nilp us (.slice none 0 0) kit (.slice ats seats.length caps) moves (.slice ac calls.length capc)) + (Sc2 + (Sc + (pt (w.heap.size + 1) run0 + pt w.heap.size run0 + (Ss + Sm + F)))) from by ac_rfl)).cell]; rfl}; have k0 : w2.cell? ⟨bM, 0, none⟩ = some (.pointer (some ⟨bm, 0, none⟩)) := by {rw [(h1.of_eq (show _ = pt bM (machO bm th nw nilp nilp us (.slice none 0 0) kit (.slice ats seats.length caps) moves (.slice ac calls.length capc)) + (Sc2 + (Sc + (pt (w.heap.size + 1) run0 + pt w.heap.size run0 + (Ss + Sm + F)))) from by ac_rfl)).cell]; rfl}; have HR1 := Lib.hid hr1; have H1b := Lib.hid h1; clear hr1 h1 d10 d6 d0)
        | (go_at_call 58; refine (clone_shift _).mono ?_; rintro e w' ⟨rfl, rfl⟩)
        | (go_at_call 59; refine (words_at W _ bm words log mv Sm (Sc2 + (Sc + (pt w.heap.size run0 + (pt bM (machO bm th nw nilp nilp us (.slice none 0 0) kit (.slice ats seats.length caps) moves (.slice ac calls.length capc)) + Ss + F)))) hw HM.out (H1.out.of_eq (by ac_rfl))).mono ?_; rintro e w4 ⟨v2, Sw2, rfl, hr2, h2⟩; obtain ⟨a2, c2, rfl⟩ := hr2.form; clear k10 k6 k0; have k10 : w4.cell? ⟨bM, 10, none⟩ = some (.slice ac calls.length capc) := by {rw [(h2.of_eq (show _ = pt bM (machO bm th nw nilp nilp us (.slice none 0 0) kit (.slice ats seats.length caps) moves (.slice ac calls.length capc)) + (Sw2 + (Sm + (Sc2 + (Sc + (pt w.heap.size run0 + (Ss + F)))))) from by ac_rfl)).cell]; rfl}; have k6 : w4.cell? ⟨bM, 6, none⟩ = some (.slice none 0 0) := by {rw [(h2.of_eq (show _ = pt bM (machO bm th nw nilp nilp us (.slice none 0 0) kit (.slice ats seats.length caps) moves (.slice ac calls.length capc)) + (Sw2 + (Sm + (Sc2 + (Sc + (pt w.heap.size run0 + (Ss + F)))))) from by ac_rfl)).cell]; rfl}; have k0 : w4.cell? ⟨bM, 0, none⟩ = some (.pointer (some ⟨bm, 0, none⟩)) := by {rw [(h2.of_eq (show _ = pt bM (machO bm th nw nilp nilp us (.slice none 0 0) kit (.slice ats seats.length caps) moves (.slice ac calls.length capc)) + (Sw2 + (Sm + (Sc2 + (Sc + (pt w.heap.size run0 + (Ss + F)))))) from by ac_rfl)).cell]; rfl}; have HR2 := Lib.hid hr2; have H2 := Lib.hid h2; clear hr2 h2)
        | (go_at_call 59; refine (words_at W _ bm words log mv Sm (pt w2.heap.size run0 + Sc2 + (Sc + (pt w.heap.size run0 + (pt bM (machO bm th nw nilp nilp us (.slice none 0 0) kit (.slice ats seats.length caps) moves (.slice ac calls.length capc)) + Ss + F)))) hw HM.out ((H1.out.new w2.heap.size rfl run0).of_eq (by ac_rfl))).mono ?_; rintro e w4 ⟨v2, Sw2, rfl, hr2, h2⟩; obtain ⟨a2, c2, rfl⟩ := hr2.form; clear k10 k6 k0; have k10 : w4.cell? ⟨bM, 10, none⟩ = some (.slice ac calls.length capc) := by {rw [(h2.of_eq (show _ = pt bM (machO bm th nw nilp nilp us (.slice none 0 0) kit (.slice ats seats.length caps) moves (.slice ac calls.length capc)) + (pt w2.heap.size run0 + Sw2 + (Sm + (Sc2 + (Sc + (pt w.heap.size run0 + (Ss + F)))))) from by ac_rfl)).cell]; rfl}; have k6 : w4.cell? ⟨bM, 6, none⟩ = some (.slice none 0 0) := by {rw [(h2.of_eq (show _ = pt bM (machO bm th nw nilp nilp us (.slice none 0 0) kit (.slice ats seats.length caps) moves (.slice ac calls.length capc)) + (pt w2.heap.size run0 + Sw2 + (Sm + (Sc2 + (Sc + (pt w.heap.size run0 + (Ss + F)))))) from by ac_rfl)).cell]; rfl}; have k0 : w4.cell? ⟨bM, 0, none⟩ = some (.pointer (some ⟨bm, 0, none⟩)) := by {rw [(h2.of_eq (show _ = pt bM (machO bm th nw nilp nilp us (.slice none 0 0) kit (.slice ats seats.length caps) moves (.slice ac calls.length capc)) + (pt w2.heap.size run0 + Sw2 + (Sm + (Sc2 + (Sc + (pt w.heap.size run0 + (Ss + F)))))) from by ac_rfl)).cell]; rfl}; have HR2 := Lib.hid hr2; have m0 : w4.cell? ⟨w2.heap.size, 0, none⟩ = some (.slice none 0 0) := by {rw [(h2.of_eq (show _ = pt w2.heap.size run0 + (Sw2 + (Sm + (Sc2 + (Sc + (pt w.heap.size run0 + (pt bM (machO bm th nw nilp nilp us (.slice none 0 0) kit (.slice ats seats.length caps) moves (.slice ac calls.length capc)) + (Ss + F)))))))  from by ac_rfl)).cell]; rfl}; have m1 : w4.cell? ⟨w2.heap.size, 1, none⟩ = some (.slice none 0 0) := by {rw [(h2.of_eq (show _ = pt w2.heap.size run0 + (Sw2 + (Sm + (Sc2 + (Sc + (pt w.heap.size run0 + (pt bM (machO bm th nw nilp nilp us (.slice none 0 0) kit (.slice ats seats.length caps) moves (.slice ac calls.length capc)) + (Ss + F)))))))  from by ac_rfl)).cell]; rfl}; have m2 : w4.cell? ⟨w2.heap.size, 2, none⟩ = some (.slice none 0 0) := by {rw [(h2.of_eq (show _ = pt w2.heap.size run0 + (Sw2 + (Sm + (Sc2 + (Sc + (pt w.heap.size run0 + (pt bM (machO bm th nw nilp nilp us (.slice none 0 0) kit (.slice ats seats.length caps) moves (.slice ac calls.length capc)) + (Ss + F)))))))  from by ac_rfl)).cell]; rfl}; have m3 : w4.cell? ⟨w2.heap.size, 3, none⟩ = some (.slice none 0 0) := by {rw [(h2.of_eq (show _ = pt w2.heap.size run0 + (Sw2 + (Sm + (Sc2 + (Sc + (pt w.heap.size run0 + (pt bM (machO bm th nw nilp nilp us (.slice none 0 0) kit (.slice ats seats.length caps) moves (.slice ac calls.length capc)) + (Ss + F)))))))  from by ac_rfl)).cell]; rfl}; have mf : ∀ i, w4.frozen? ⟨w2.heap.size, i, none⟩ = false := fun i => (h2.of_eq (show _ = pt w2.heap.size run0 + (Sw2 + (Sm + (Sc2 + (Sc + (pt w.heap.size run0 + (pt bM (machO bm th nw nilp nilp us (.slice none 0 0) kit (.slice ats seats.length caps) moves (.slice ac calls.length capc)) + (Ss + F)))))))  from by ac_rfl)).free i; have mf0 := mf 0; have mf1 := mf 1; have mf2 := mf 2; have mf3 := mf 3; clear mf; have nb : w2.heap.size ≠ bM := (h2.of_eq (show _ = pt w2.heap.size run0 + (pt bM (machO bm th nw nilp nilp us (.slice none 0 0) kit (.slice ats seats.length caps) moves (.slice ac calls.length capc)) + (Sw2 + (Sm + (Sc2 + (Sc + (pt w.heap.size run0 + (Ss + F))))))) from by ac_rfl)).ne; have nb' : bM ≠ w2.heap.size := fun e => nb e.symm; have H2c := Lib.hid h2; clear hr2 h2)
        | (go_at_call 59; refine (words_at W _ bm words log mv Sm (pt (w.heap.size + 1) run0 + Sc2 + (Sc + (pt w.heap.size run0 + (pt bM (machO bm th nw nilp nilp us (.slice none 0 0) kit (.slice ats seats.length caps) moves (.slice ac calls.length capc)) + Ss + F)))) hw HM.out (H1b.out.of_eq (by ac_rfl))).mono ?_; rintro e w4 ⟨v2, Sw2, rfl, hr2, h2⟩; obtain ⟨a2, c2, rfl⟩ := hr2.form; clear k10 k6 k0; have k10 : w4.cell? ⟨bM, 10, none⟩ = some (.slice ac calls.length capc) := by {rw [(h2.of_eq (show _ = pt bM (machO bm th nw nilp nilp us (.slice none 0 0) kit (.slice ats seats.length caps) moves (.slice ac calls.length capc)) + (pt (w.heap.size + 1) run0 + Sw2 + (Sm + (Sc2 + (Sc + (pt w.heap.size run0 + (Ss + F)))))) from by ac_rfl)).cell]; rfl}; have k6 : w4.cell? ⟨bM, 6, none⟩ = some (.slice none 0 0) := by {rw [(h2.of_eq (show _ = pt bM (machO bm th nw nilp nilp us (.slice none 0 0) kit (.slice ats seats.length caps) moves (.slice ac calls.length capc)) + (pt (w.heap.size + 1) run0 + Sw2 + (Sm + (Sc2 + (Sc + (pt w.heap.size run0 + (Ss + F)))))) from by ac_rfl)).cell]; rfl}; have k0 : w4.cell? ⟨bM, 0, none⟩ = some (.pointer (some ⟨bm, 0, none⟩)) := by {rw [(h2.of_eq (show _ = pt bM (machO bm th nw nilp nilp us (.slice none 0 0) kit (.slice ats seats.length caps) moves (.slice ac calls.length capc)) + (pt (w.heap.size + 1) run0 + Sw2 + (Sm + (Sc2 + (Sc + (pt w.heap.size run0 + (Ss + F)))))) from by ac_rfl)).cell]; rfl}; have HR2 := Lib.hid hr2; have m0 : w4.cell? ⟨(w.heap.size + 1), 0, none⟩ = some (.slice none 0 0) := by {rw [(h2.of_eq (show _ = pt (w.heap.size + 1) run0 + (Sw2 + (Sm + (Sc2 + (Sc + (pt w.heap.size run0 + (pt bM (machO bm th nw nilp nilp us (.slice none 0 0) kit (.slice ats seats.length caps) moves (.slice ac calls.length capc)) + (Ss + F)))))))  from by ac_rfl)).cell]; rfl}; have m1 : w4.cell? ⟨(w.heap.size + 1), 1, none⟩ = some (.slice none 0 0) := by {rw [(h2.of_eq (show _ = pt (w.heap.size + 1) run0 + (Sw2 + (Sm + (Sc2 + (Sc + (pt w.heap.size run0 + (pt bM (machO bm th nw nilp nilp us (.slice none 0 0) kit (.slice ats seats.length caps) moves (.slice ac calls.length capc)) + (Ss + F)))))))  from by ac_rfl)).cell]; rfl}; have m2 : w4.cell? ⟨(w.heap.size + 1), 2, none⟩ = some (.slice none 0 0) := by {rw [(h2.of_eq (show _ = pt (w.heap.size + 1) run0 + (Sw2 + (Sm + (Sc2 + (Sc + (pt w.heap.size run0 + (pt bM (machO bm th nw nilp nilp us (.slice none 0 0) kit (.slice ats seats.length caps) moves (.slice ac calls.length capc)) + (Ss + F)))))))  from by ac_rfl)).cell]; rfl}; have m3 : w4.cell? ⟨(w.heap.size + 1), 3, none⟩ = some (.slice none 0 0) := by {rw [(h2.of_eq (show _ = pt (w.heap.size + 1) run0 + (Sw2 + (Sm + (Sc2 + (Sc + (pt w.heap.size run0 + (pt bM (machO bm th nw nilp nilp us (.slice none 0 0) kit (.slice ats seats.length caps) moves (.slice ac calls.length capc)) + (Ss + F)))))))  from by ac_rfl)).cell]; rfl}; have mf : ∀ i, w4.frozen? ⟨(w.heap.size + 1), i, none⟩ = false := fun i => (h2.of_eq (show _ = pt (w.heap.size + 1) run0 + (Sw2 + (Sm + (Sc2 + (Sc + (pt w.heap.size run0 + (pt bM (machO bm th nw nilp nilp us (.slice none 0 0) kit (.slice ats seats.length caps) moves (.slice ac calls.length capc)) + (Ss + F)))))))  from by ac_rfl)).free i; have mf0 := mf 0; have mf1 := mf 1; have mf2 := mf 2; have mf3 := mf 3; clear mf; have nb : (w.heap.size + 1) ≠ bM := (h2.of_eq (show _ = pt (w.heap.size + 1) run0 + (pt bM (machO bm th nw nilp nilp us (.slice none 0 0) kit (.slice ats seats.length caps) moves (.slice ac calls.length capc)) + (Sw2 + (Sm + (Sc2 + (Sc + (pt w.heap.size run0 + (Ss + F))))))) from by ac_rfl)).ne; have nb' : bM ≠ (w.heap.size + 1) := fun e => nb e.symm; have H2b := Lib.hid h2; clear hr2 h2))
    all_goals
      try clear k10 k6 k0
      go_wp2_with fail
      go_meet
      first
        | exact ⟨_, _, _, _, _, rfl, HR1.out, HR2.out, (H2.out.new w4.heap.size rfl (.cells #[.slice a1 calls.length c1, .slice none 0 0, .slice none 0 0, .slice a2 words.length c2] 33 (0, 0))).of_eq (by ac_rfl)⟩
        | exact ⟨_, _, _, _, _, rfl, HR1.out, HR2.out, (((((H2c.out.of_eq (show _ = pt w2.heap.size (.cells #[.slice none 0 0, .slice none 0 0, .slice none 0 0, .slice none 0 0] 33 (0, 0)) + (Sc2 + (Sw2 + (pt w.heap.size run0 + (pt bM (machO bm th nw nilp nilp us (.slice none 0 0) kit (.slice ats seats.length caps) moves (.slice ac calls.length capc)) + (Sc + (Ss + Sm) + F))))) from by unfold run0; ac_rfl)).set 0 (.slice a1 calls.length c1)).set 1 (.slice none 0 0)).set 2 (.slice none 0 0)).set 3 (.slice a2 words.length c2)).of_eq (show _ = pt w2.heap.size (.cells #[.slice a1 calls.length c1, .slice none 0 0, .slice none 0 0, .slice a2 words.length c2] 33 (0, 0)) + (Sc2 + (Sw2 + (pt w.heap.size run0 + (pt bM (machO bm th nw nilp nilp us (.slice none 0 0) kit (.slice ats seats.length caps) moves (.slice ac calls.length capc)) + (Sc + (Ss + Sm) + F))))) from by simp only [List.setIfInBounds_toArray, List.set_cons_zero, List.set_cons_succ])⟩
        | exact ⟨_, _, _, _, _, rfl, HR1.out, HR2.out, (((((H2b.out.of_eq (show _ = pt (w.heap.size + 1) (.cells #[.slice none 0 0, .slice none 0 0, .slice none 0 0, .slice none 0 0] 33 (0, 0)) + (Sc2 + (Sw2 + (pt w.heap.size run0 + (pt bM (machO bm th nw nilp nilp us (.slice none 0 0) kit (.slice ats seats.length caps) moves (.slice ac calls.length capc)) + (Sc + (Ss + Sm) + F))))) from by unfold run0; ac_rfl)).set 0 (.slice a1 calls.length c1)).set 1 (.slice none 0 0)).set 2 (.slice none 0 0)).set 3 (.slice a2 words.length c2)).of_eq (show _ = pt (w.heap.size + 1) (.cells #[.slice a1 calls.length c1, .slice none 0 0, .slice none 0 0, .slice a2 words.length c2] 33 (0, 0)) + (Sc2 + (Sw2 + (pt w.heap.size run0 + (pt bM (machO bm th nw nilp nilp us (.slice none 0 0) kit (.slice ats seats.length caps) moves (.slice ac calls.length capc)) + (Sc + (Ss + Sm) + F))))) from by simp only [List.setIfInBounds_toArray, List.set_cons_zero, List.set_cons_succ])⟩
  case rest =>
    obtain ⟨b3, cv1, wv1, Sc1, Sw1, rfl, hr1, hr2, h3⟩ := hcut
    obtain ⟨a1, c1, rfl⟩ := hr1.form
    obtain ⟨a2, c2, rfl⟩ := hr2.form
    have e0 : wc.cell? ⟨bM, 0, none⟩ = some (.pointer (some ⟨bm, 0, none⟩)) := by
      rw [(h3.of_eq (show _ = pt bM (machO bm th nw nilp nilp us (.slice none 0 0) kit (.slice ats seats.length caps) moves (.slice ac calls.length capc)) + (pt b3 (.cells #[.slice a1 calls.length c1, .slice none 0 0, .slice none 0 0, .slice a2 words.length c2] 33 (0, 0)) + (Sc1 + (Sw1 + (pt w.heap.size run0 + (Sc + (Ss + Sm) + F))))) from by ac_rfl)).cell]; rfl
    clear d10 d6 d0 q0
    have HR1 := Lib.hid hr1
    have HR2 := Lib.hid hr2
    have H3 := Lib.hid h3
    clear hr1 hr2 h3
    go_wp2_with (go_at_call 60; refine (log_at _ bm).mono ?_; rintro e w' ⟨rfl, rfl⟩)
    obtain ⟨i0, hi, hz0, hz1, hz2⟩ := info_parts infoAcc
    obtain ⟨w0, hw0⟩ : ∃ w0, (wc.alloc (.cells #[.pointer (some ⟨bm, 0, none⟩)] 127)).alloc (.cells #[.int .i64 0] 3) = w0 := ⟨_, rfl⟩
    have hsz : w0.heap.size = wc.heap.size + 2 := by rw [← hw0]; simp
    have H5 := Lib.hid ((H3.out.new wc.heap.size rfl (.cells #[.pointer (some ⟨bm, 0, none⟩)] 127 (0, 0))).new (wc.heap.size + 1) (by simp) (.cells #[.int .i64 0] 3 (0, 0)))
    rw [hw0] at H5 ⊢
    have p1 : w0.cell? ⟨wc.heap.size, 0, none⟩ = some (.pointer (some ⟨bm, 0, none⟩)) := by rw [(H5.out.of_eq (Hp.add_assoc _ _ _ |>.symm |>.trans (by rw [Hp.add_comm (pt (wc.heap.size + 1) _)]; exact Hp.add_assoc _ _ _))).cell]; rfl
    have p2 : w0.cell? ⟨wc.heap.size + 1, 0, none⟩ = some (.int .i64 0) := by rw [H5.out.cell]; rfl
    obtain ⟨R, hR⟩ : ∃ R, Sc1 + (Sw1 + (pt w.heap.size run0 + (pt bM (machO bm th nw nilp nilp us (.slice none 0 0) kit (.slice ats seats.length caps) moves (.slice ac calls.length capc)) + (Sc + (Ss + Sm) + F)))) = R := ⟨_, rfl⟩
    have H6 : Hid (Holds W w0 (pt b3 (.cells #[.slice a1 calls.length c1, .slice none 0 0, .slice none 0 0, .slice a2 words.length c2] 33 (0, 0)) + R)) := by rw [← hR]; exact H5.out.right.right
    have HS6 : Hid (∀ b, 0 < R.dom b → b < w0.heap.size) := fun b hb => H6.out.low b (by simp only [Hp.dom_add]; omega)
    have hb3 : b3 < w0.heap.size := H6.out.lt
    have hWB : W.heap.size ≤ w0.heap.size := H6.out.size
    have lW : w.heap.size < w0.heap.size := (H6.out.of_eq (show _ = pt w.heap.size run0 + (pt b3 (.cells #[.slice a1 calls.length c1, .slice none 0 0, .slice none 0 0, .slice a2 words.length c2] 33 (0, 0)) + (Sc1 + (Sw1 + (pt bM (machO bm th nw nilp nilp us (.slice none 0 0) kit (.slice ats seats.length caps) moves (.slice ac calls.length capc)) + (Sc + (Ss + Sm) + F))))) from by rw [← hR]; ac_rfl)).lt
    have hLog : LogLies w0 bm b3 log := logLies_of HM.out (H5.out.right.right.of_eq (show _ = Sm + (pt b3 (.cells #[.slice a1 calls.length c1, .slice none 0 0, .slice none 0 0, .slice a2 words.length c2] 33 (0, 0)) + (Sc1 + (Sw1 + (pt w.heap.size run0 + (pt bM (machO bm th nw nilp nilp us (.slice none 0 0) kit (.slice ats seats.length caps) moves (.slice ac calls.length capc)) + (Sc + Ss + F)))))) from by ac_rfl)) (by rw [H6.out.cell]; rfl)
    have HL := Lib.hid hLog
    have HW0 := Lib.hid hw0
    clear hLog hw0 HC HM HH HHb e0
    refine (wpIn_wide (n := 5)).1 ?_
    refine wpIn_rangeFunc_ownH rfl (by decide) (gf := 84) (lb := #[.pointer (some ⟨wc.heap.size, 0, none⟩), .pointer (some ⟨wc.heap.size + 1, 0, none⟩)]) rfl trivial (enters_of Try.func84 (by kernel_rfl) rfl)
      (log_stops 4 (by decide) wc.heap.size (wc.heap.size + 1) bm b3 log hlog w0 p1 p2 HL.out) KpR.trans (fun Wx l o o' hl ho hc _ => KpR.putObj hb3 Wx l o o' hl ho hc) (Below.refl _ _) (fun _ => rfl)
      (LoopI W b3 w0.heap.size (.slice a1 calls.length c1) (.slice a2 words.length c2) R) (fun _ _ _ => False) (LoopI.own hWB hb3 HS6.out) (fun _ _ _ _ _ hs _ _ => hs)
      ⟨Nat.le_refl _, .slice none 0 0, H6.out, World.ownsRow_nil _ _ _ _⟩
      (fun x a' Wx => ∃ Bx, w0.heap.size ≤ Bx ∧ Wx.heap[Bx]? = some (.cells (encAcc x.2).toArray 103 (0, 0)) ∧ a' = { tmps := #[.pointer (some ⟨bM, 0, none⟩), undef, .pointer (some ⟨w.heap.size, 0, none⟩), .pointer (some ⟨b3, 0, none⟩), undef, .pointer (some ⟨Bx, 0, none⟩), .pointer (some ⟨bM, 0, none⟩), .bool false, .bool false, .pointer (some ⟨bM, 0, none⟩), .pointer (some ⟨bM, 0, none⟩), .pointer (some ⟨bM, 8, none⟩), .slice ats seats.length caps, .int .i64 seats.length, .bool false, .bool false, undef, u17, u18, u19, u20, u21, u22, u23, u24, u25, u26, u27, u28, u29, u30, u31, u32, u33, u34, .pointer (some ⟨bM, 0, none⟩), .pointer (some ⟨bM, 0, none⟩), .pointer (some ⟨bM, 0, none⟩), .pointer (some ⟨bM, 0, none⟩), .pointer (some ⟨bm, 0, none⟩), .func (.func 84) #[] #[.pointer (some ⟨wc.heap.size, 0, none⟩), .pointer (some ⟨wc.heap.size + 1, 0, none⟩)], .int .i64 (x.1 : Int), .agg #[.int .i64 x.2.move, .int .i64 x.2.thread, .int .i64 x.2.kind, .int .i64 x.2.addr, .int .u64 x.2.old, .int .u64 x.2.new, .int .u64 x.2.saw], undef, undef, undef, undef, undef, undef, undef], defers := [] })
      (fun x a' => ?own) ?assign ?body ?done ?stop
    case own =>
      rintro _ A A' row ⟨Bx, q1, q2, q3⟩ hg hr
      exact ⟨Bx, q1, (hg.block Bx (Array.getElem?_eq_some_iff.1 q2).1 (fun e => by obtain ⟨_, o, ho, hc⟩ := hr Bx e.symm; rw [q2] at ho; cases ho; cases hc)).trans q2, q3⟩
    case assign =>
      intro l pre x Wx K hI hK
      have hb := (show b3 < Wx.heap.size from by obtain ⟨_, tv, q1, _⟩ := hI; exact q1.lt)
      have hBx : w0.heap.size ≤ Wx.heap.size := hI.1
      have HI := Lib.hid hI
      have HK := Lib.hid hK
      clear hI hK
      unfold encIdx
      gi_wp2
      exact HK.out _ _ ((KeepsOthers.alloc _ _).from _) (KpR.alloc _ _ _ hb) (HI.out.alloc _) ⟨Wx.heap.size, hBx, World.alloc_heap_new _ _, rfl⟩
    case body =>
      rintro l pre x a' Wx hl _ ⟨hB, tv, h1, h2⟩ ⟨Bx, hBx, q2, rfl⟩ hlt
      obtain ⟨ta, tc, rfl⟩ : ∃ ta tc, tv = .slice ta pre.length tc := by
        rcases h2.2 with ⟨rfl, e⟩ | ⟨g, cap, cur, rfl, _⟩
        · exact ⟨none, 0, by rw [e]⟩
        · exact ⟨_, _, rfl⟩
      have f1 := h1.free 1
      have m1 : Wx.cell? ⟨b3, 1, none⟩ = some (.slice ta pre.length tc) := by rw [h1.cell]; rfl
      have cx : ∀ j, Wx.cell? ⟨Bx, j, none⟩ = (encAcc x.2)[j]? := fun j => by simp [World.cell?, q2]
      have x0 : Wx.cell? ⟨Bx, 0, none⟩ = some (.int .i64 x.2.move) := cx 0
      have x1 : Wx.cell? ⟨Bx, 1, none⟩ = some (.int .i64 x.2.thread) := cx 1
      have x2 : Wx.cell? ⟨Bx, 2, none⟩ = some (.int .i64 x.2.kind) := cx 2
      have x3 : Wx.cell? ⟨Bx, 3, none⟩ = some (.int .i64 x.2.addr) := cx 3
      have x4 : Wx.cell? ⟨Bx, 4, none⟩ = some (.int .u64 x.2.old) := cx 4
      have x5 : Wx.cell? ⟨Bx, 5, none⟩ = some (.int .u64 x.2.new) := cx 5
      have x6 : Wx.cell? ⟨Bx, 6, none⟩ = some (.int .u64 x.2.saw) := cx 6
      have HN : Hid (pre.length + 1 ≤ maxLen ∧ (pre.length + 1) * 56 ≤ 140737488355328) := ⟨by unfold maxLen; omega, by omega⟩
      have G1 := Lib.hid h1
      have G2 := Lib.hid h2
      have GN : Hid (∀ j u, (encAcc x.2)[j]? = some u → (Wx.alloc (.cells (encAcc x.2).toArray 103 (0, 0))).cell? ((⟨Wx.heap.size, 0, none⟩ : Addr).add j) = some u) := by
        intro j u hu
        rw [add_none]
        have : (Wx.alloc (.cells (encAcc x.2).toArray 103 (0, 0))).cell? ⟨Wx.heap.size, j, none⟩ = (encAcc x.2)[j]? := by simp only [World.cell?, World.alloc_heap_new]; simp
        rw [this, hu]
      clear h1 h2 q2 cx hlt
      gi_wp2_with (gi_at_builtin; refine wpListIn_append_lies _ rfl (.tmp 44) (.tmp 46) 29 rfl w0.heap.size 103 i0 _ 7 56 Try.underlying29 hi hz0 hz1 hz2 rfl (by decide) (.slice ta pre.length tc) pre.length _ rfl (G2.out.alloc _) ⟨Wx.heap.size, 0, none⟩ 1 1 (encAcc x.2) rfl rfl GN.out (by simp [encAcc, Value.oneCell']) (by decide) HN.out.1 HN.out.2 (by rw [World.size_alloc]; omega) ?_; intro g cap w1 hown hgrow hat _; have hw1 := LoopI.grown hWB hb3 HS6.out G1.out G2.out hgrow; have n1 : w1.cell? ⟨b3, 1, none⟩ = some (.slice ta pre.length tc) := by {rw [hw1.cell]; rfl}; have n2 := hw1.free 1; have Y1 := Lib.hid hown; have Y2 := Lib.hid hgrow; have Y3 := Lib.hid hat; have Y4 := Lib.hid hw1; clear hown hgrow hat hw1)
      exact LoopI.round hb3 hB HS6.out G1.out G2.out Y1.out Y2.out (by simpa using Y3.out) Y4.out
    case done =>
      rintro D ys Wx hD rfl ⟨_, tv, h1, h2⟩ hK
      rw [idx_length, idx_snd] at h2
      obtain ⟨ta, tc, rfl⟩ : ∃ ta tc, tv = .slice ta log.length tc := by
        rcases h2.2 with ⟨rfl, e⟩ | ⟨g, cap, cur, rfl, _⟩
        · exact ⟨none, 0, by rw [e]⟩
        · exact ⟨_, _, rfl⟩
      have h3 : Holds W Wx (pt w.heap.size (.cells #[.slice none 0 0, .slice none 0 0, .slice none 0 0, .slice none 0 0] 33 (0, 0)) + (pt b3 (.cells #[.slice a1 calls.length c1, .slice ta log.length tc, .slice none 0 0, .slice a2 words.length c2] 33 (0, 0)) + (Sc1 + (Sw1 + (pt bM (machO bm th nw nilp nilp us (.slice none 0 0) kit (.slice ats seats.length caps) moves (.slice ac calls.length capc)) + (Sc + (Ss + Sm) + F)))))) := by
        rw [← hR] at h1
        exact h1.of_eq (by unfold run0; ac_rfl)
      have r0 : Wx.cell? ⟨b3, 0, none⟩ = some (.slice a1 calls.length c1) := by rw [h1.cell]; rfl
      have r1 : Wx.cell? ⟨b3, 1, none⟩ = some (.slice ta log.length tc) := by rw [h1.cell]; rfl
      have r2 : Wx.cell? ⟨b3, 2, none⟩ = some (.slice none 0 0) := by rw [h1.cell]; rfl
      have r3 : Wx.cell? ⟨b3, 3, none⟩ = some (.slice a2 words.length c2) := by rw [h1.cell]; rfl
      have s0 : Wx.cell? ⟨w.heap.size, 0, none⟩ = some (.slice none 0 0) := by rw [h3.cell]; rfl
      have s1 : Wx.cell? ⟨w.heap.size, 1, none⟩ = some (.slice none 0 0) := by rw [h3.cell]; rfl
      have s2 : Wx.cell? ⟨w.heap.size, 2, none⟩ = some (.slice none 0 0) := by rw [h3.cell]; rfl
      have s3 : Wx.cell? ⟨w.heap.size, 3, none⟩ = some (.slice none 0 0) := by rw [h3.cell]; rfl
      have t0 := h3.free 0
      have t1 := h3.free 1
      have t2 := h3.free 2
      have t3 := h3.free 3
      have G2 := Lib.hid h2
      have G3 := Lib.hid h3
      have GK := Lib.hid hK
      have GR := Lib.hid hR
      clear h1 h2 h3 hK hR
      go_wp2_with fail
      have hne : D ≠ w.heap.size := by have := lM; have := lW; omega
      have hK4 : ((((Wx.setCell ⟨w.heap.size, 0, none⟩ (.slice a1 calls.length c1)).setCell ⟨w.heap.size, 1, none⟩ (.slice ta log.length tc)).setCell ⟨w.heap.size, 2, none⟩ (.slice none 0 0)).setCell ⟨w.heap.size, 3, none⟩ (.slice a2 words.length c2)).heap[D]? = some (.deferred (some [])) := by
        rw [Below.heap_setCell _ _ _ _ hne, Below.heap_setCell _ _ _ _ hne, Below.heap_setCell _ _ _ _ hne, Below.heap_setCell _ _ _ _ hne]; exact GK.out
      refine ⟨by simp, .inl ⟨_, _, rfl, run_takeDeferred hK4, ?_⟩⟩
      have hd : ∀ b, 0 < (pt w.heap.size (.cells #[.slice a1 calls.length c1, .slice ta log.length tc, .slice none 0 0, .slice a2 words.length c2] 33 (0, 0)) + (pt b3 (.cells #[.slice a1 calls.length c1, .slice ta log.length tc, .slice none 0 0, .slice a2 words.length c2] 33 (0, 0)) + (Sc1 + (Sw1 + (pt bM (machO bm th nw nilp nilp us (.slice none 0 0) kit (.slice ats seats.length caps) moves (.slice ac calls.length capc)) + (Sc + (Ss + Sm) + F)))))).dom b → b < w0.heap.size := by
        intro b hb
        refine H6.out.low b ?_
        rw [← GR.out]
        simp only [Hp.dom_add, pt] at hb ⊢
        omega
      have G4 := ((((G3.out.set 0 (.slice a1 calls.length c1)).set 1 (.slice ta log.length tc)).set 2 (.slice none 0 0)).set 3 (.slice a2 words.length c2)).of_eq (show _ = pt w.heap.size (.cells #[.slice a1 calls.length c1, .slice ta log.length tc, .slice none 0 0, .slice a2 words.length c2] 33 (0, 0)) + (pt b3 (.cells #[.slice a1 calls.length c1, .slice ta log.length tc, .slice none 0 0, .slice a2 words.length c2] 33 (0, 0)) + (Sc1 + (Sw1 + (pt bM (machO bm th nw nilp nilp us (.slice none 0 0) kit (.slice ats seats.length caps) moves (.slice ac calls.length capc)) + (Sc + (Ss + Sm) + F))))) from by simp only [List.setIfInBounds_toArray, List.set_cons_zero, List.set_cons_succ])
      have G5 := G4.grownBy (grownBy_putObj' _ D (.deferred none)) hWB hd (fun r e => by cases e; exact hD)
      have O5 := ownsRow_putObj (own_set (u := .slice a2 words.length c2) (i := 3) (own_set (u := .slice none 0 0) (i := 2) (own_set (u := .slice ta log.length tc) (i := 1) (own_set (u := .slice a1 calls.length c1) (i := 0) G2.out lW) lW) lW) lW) (.deferred none) hK4 rfl
      have hat := G5.at
      refine ⟨_, results_cell_row rfl _ _ w.heap.size 33 _ (0, 0) _ rfl hat Try.underlying33 rfl (by kernel_rfl), ?_⟩
      rw [Hp.add_assoc]
      exact run_done (G := pt bM (machO bm th nw nilp nilp us (.slice none 0 0) kit (.slice ats seats.length caps) moves (.slice ac calls.length capc)) + (Sc + (Ss + Sm) + F)) hWB hd HR1.out HR2.out O5 G5
    case stop =>
      rintro D c pre Wx _ _ h _
      exact h.elim

end Go.Proofs.Ythifeaigdobonaa
