/- The ring's laws: May, fit; RingAlone's walk. RingAlone: the walk. -/
import Derived.Test.YthifeaigdobonaaRgk
namespace Go.Proofs.Ythifeaigdobonaa
open Go.RowKit

theorem rmay_at (w : World) (th cells : Int) : Calls Try.prog 35 #[rgV th cells] w fun e w' => e = .returned (.bool (decide (okR th cells))) ∧ Below w.heap.size w w' := by
  unfold rgV
  by_cases h1 : 1 ≤ th
  · by_cases h2 : th ≤ 16
    · by_cases h3 : 2 ≤ cells
      · by_cases h4 : cells ≤ 64
        · go_enter Try.func35, Try.ntmps35
          go_wp2_with fail
          go_ret
          exact ⟨by simp [okR, h1, h2, h3, h4], (Below.refl _ _).alloc (Nat.le_refl _) _⟩
        · go_enter Try.func35, Try.ntmps35
          go_wp2_with fail
          go_ret
          exact ⟨by rw [decide_eq_false (by unfold okR; omega)]; simp, (Below.refl _ _).alloc (Nat.le_refl _) _⟩
      · go_enter Try.func35, Try.ntmps35
        go_wp2_with fail
        go_ret
        exact ⟨by rw [decide_eq_false (by unfold okR; omega)]; simp, (Below.refl _ _).alloc (Nat.le_refl _) _⟩
    · go_enter Try.func35, Try.ntmps35
      go_wp2_with fail
      go_ret
      exact ⟨by rw [decide_eq_false (by unfold okR; omega)]; simp, (Below.refl _ _).alloc (Nat.le_refl _) _⟩
  · go_enter Try.func35, Try.ntmps35
    go_wp2_with fail
    go_ret
    exact ⟨by rw [decide_eq_false (by unfold okR; omega)]; simp, (Below.refl _ _).alloc (Nat.le_refl _) _⟩

/-- The ring and the script that fit. -/
def fitT (th cells : Int) : Int := if okR th cells then th else 2
def fitC (th cells : Int) : Int := if okR th cells then cells else 2
def fitN (len : Nat) : Nat := if len ≤ 65536 then len else 65536
theorem fit_ok (th cells : Int) : ∃ n r : Nat, fitT th cells = n ∧ fitC th cells = r ∧ okR n r := by
  unfold fitT fitC
  by_cases h : okR th cells
  · rw [if_pos h, if_pos h]
    have h2 := h
    unfold okR at h2
    exact ⟨th.toNat, cells.toNat, by omega, by omega, by unfold okR; omega⟩
  · rw [if_neg h, if_neg h]
    exact ⟨2, 2, rfl, rfl, by decide⟩
theorem MovesIn.fit {w : World} {a : Option Addr} {len : Nat} {mvs : List DM.Mv} (h : MovesIn w a len mvs) : MovesIn w a (fitN len) (mvs.take (fitN len)) := by
  obtain ⟨h1, h2, h3, h4⟩ := h
  have hle : fitN len ≤ len := by unfold fitN; split <;> omega
  refine ⟨by rw [List.length_take]; omega, by omega, fun v hv => h3 v (List.mem_of_mem_take hv), ?_⟩
  rcases h4 with h4 | ⟨b, off, h5, h6, h7⟩
  · exact .inl (by rw [h4]; simp)
  · refine .inr ⟨b, off, h5, h6, fun k v hk j hj => h7 k v ?_ j hj⟩
    rw [List.getElem?_take] at hk
    split at hk
    · exact hk
    · cases hk

set_option maxHeartbeats 1000000 in
set_option maxRecDepth 100000 in
theorem rfit_at (w : World) (th cells : Int) (a : Option Addr) (len cap : Nat) (hl : len ≤ maxLen) (hcap : len ≤ cap) (hnil : a = none → len = 0) :
    Calls Try.prog 38 #[rgV th cells, .slice a len cap] w fun e w' => e = .returned (.tuple #[rgV (fitT th cells) (fitC th cells), .slice a (fitN len) cap]) ∧ Below w.heap.size w w' := by
  unfold maxLen at hl
  have hN : fitN len ≤ len := by unfold fitN; split <;> omega
  have h0 := ((Holds.self w).new w.heap.size rfl (rbO th cells)).new (w.heap.size + 1) (by simp) (rbO 0 0)
  have H0 := Lib.hid h0
  have hbx : ∀ wr x y G, Holds w wr (pt (w.heap.size + 1) (rbO 0 0) + (pt w.heap.size (rbO x y) + G)) → wr.cell? ⟨w.heap.size + 1, 0, none⟩ = some (.int .i64 0) ∧ wr.cell? ⟨w.heap.size + 1, 1, none⟩ = some (.int .i64 0) ∧ wr.cell? ⟨w.heap.size, 0, none⟩ = some (.int .i64 x) ∧ wr.cell? ⟨w.heap.size, 1, none⟩ = some (.int .i64 y) ∧ (∀ i, wr.frozen? ⟨w.heap.size + 1, i, none⟩ = false) ∧ ∀ i, wr.frozen? ⟨w.heap.size, i, none⟩ = false := fun wr x y G k => by
    unfold rbO at k
    exact ⟨by rw [k.cell]; rfl, by rw [k.cell]; rfl, by rw [k.right.cell]; rfl, by rw [k.right.cell]; rfl, fun i => k.free i, fun i => k.right.free i⟩
  have HBX := Lib.hid hbx
  clear h0 hbx
  unfold rbO at H0
  unfold rgV
  by_cases h1 : okR th cells
  · have e1 : fitT th cells = th := by unfold fitT; rw [if_pos h1]
    have e2 : fitC th cells = cells := by unfold fitC; rw [if_pos h1]
    rw [e1, e2]
    have HO := Lib.hid h1
    clear h1 e1 e2
    go_enter Try.func38, Try.ntmps38
    go_wp2_with fail
    refine (rmay_at _ th cells).mono ?_
    rintro e w1 ⟨rfl, hb⟩
    rw [decide_eq_true HO.out]
    have H2 := Lib.hid (H0.out.of_below hb)
    obtain ⟨c0, c1, c2, c3, f1, f0⟩ := HBX.out w1 th cells emp H2.out
    have g0 := f1 0
    have g1 := f1 1
    clear hb H0 f1 f0
    by_cases h2 : len ≤ 65536
    · have en : fitN len = len := by unfold fitN; rw [if_pos h2]
      have b2 : (len : Int) ≤ 65536 := by omega
      go_wp2_with fail
      have H3 := ((H2.out.set 0 (.int .i64 th)).set 1 (.int .i64 cells)).of_eq (show _ = pt (w.heap.size + 1) (rbO th cells) + (pt w.heap.size (rbO th cells) + emp) from by unfold rbO; simp only [List.setIfInBounds_toArray, List.set_cons_zero, List.set_cons_succ])
      refine bodyPost_ret (v := .tuple #[.agg #[.int .i64 th, .int .i64 cells], .slice a len cap]) ?_ rfl ?_
      · unfold rbO at H3
        exact results_cell_two (ty := 75) (p := 4) (t := 5) (by rfl) _ _ (w.heap.size + 1) 75 _ (0, 0) _ (by rfl) H3.at Try.underlying75 rfl (by kernel_rfl)
      · exact ⟨by rw [en], H3.below⟩
    · have en : fitN len = 65536 := by unfold fitN; rw [if_neg h2]
      have b2 : (65536 : Int) < len := by omega
      have b3 : (65536 : Int) ≤ cap := by omega
      obtain ⟨ad, rfl⟩ : ∃ ad, a = some ad := by
        cases a with
        | none => have := hnil rfl; omega
        | some ad => exact ⟨ad, rfl⟩
      go_wp2_with fail
      have H3 := ((H2.out.set 0 (.int .i64 th)).set 1 (.int .i64 cells)).of_eq (show _ = pt (w.heap.size + 1) (rbO th cells) + (pt w.heap.size (rbO th cells) + emp) from by unfold rbO; simp only [List.setIfInBounds_toArray, List.set_cons_zero, List.set_cons_succ])
      refine bodyPost_ret (v := .tuple #[.agg #[.int .i64 th, .int .i64 cells], .slice (some ad) 65536 cap]) ?_ rfl ?_
      · unfold rbO at H3
        exact results_cell_two (ty := 75) (p := 4) (t := 5) (by rfl) _ _ (w.heap.size + 1) 75 _ (0, 0) _ (by rfl) H3.at Try.underlying75 rfl (by kernel_rfl)
      · exact ⟨by rw [en], H3.below⟩
  · have e1 : fitT th cells = 2 := by unfold fitT; rw [if_neg h1]
    have e2 : fitC th cells = 2 := by unfold fitC; rw [if_neg h1]
    rw [e1, e2]
    have HO := Lib.hid h1
    clear h1 e1 e2
    go_enter Try.func38, Try.ntmps38
    go_wp2_with fail
    refine (rmay_at _ th cells).mono ?_
    rintro e w1 ⟨rfl, hb⟩
    rw [decide_eq_false HO.out]
    have h1 := H0.out.of_below hb
    clear hb H0
    go_wp2_with fail
    refine (small_at w1).mono ?_
    rintro e w2 ⟨rfl, hb⟩
    unfold rgV
    have h2 := h1.of_below hb
    obtain ⟨c0, c1, c2, c3, f1, f0⟩ := HBX.out w2 th cells emp h2
    have q0 := f0 0
    have q1 := f0 1
    have h3 := (h2.of_eq (show _ = pt w.heap.size (rbO th cells) + (pt (w.heap.size + 1) (rbO 0 0) + emp) by unfold rbO; ac_rfl))
    unfold rbO at h3
    have h4 := ((h3.set 0 (.int .i64 2)).set 1 (.int .i64 2)).of_eq (show _ = pt (w.heap.size + 1) (rbO 0 0) + (pt w.heap.size (rbO 2 2) + emp) by unfold rbO; simp only [List.setIfInBounds_toArray, List.set_cons_zero, List.set_cons_succ]; ac_rfl)
    have H2 := Lib.hid h4
    clear hb f1 f0 h1 h2 h3 h4
    go_upto_region 3 with fail
    generalize (w2.setCell ⟨w.heap.size, 0, none⟩ (.int .i64 2)).setCell ⟨w.heap.size, 1, none⟩ (.int .i64 2) = w3 at H2 ⊢
    clear c0 c1 c2 c3 q0 q1
    obtain ⟨c0, c1, c2, c3, f1, f0⟩ := HBX.out w3 2 2 emp H2.out
    have g0 := f1 0
    have g1 := f1 1
    clear f1 f0
    by_cases h2 : len ≤ 65536
    · have en : fitN len = len := by unfold fitN; rw [if_pos h2]
      have b2 : (len : Int) ≤ 65536 := by omega
      go_wp2_with fail
      have H3 := ((H2.out.set 0 (.int .i64 2)).set 1 (.int .i64 2)).of_eq (show _ = pt (w.heap.size + 1) (rbO 2 2) + (pt w.heap.size (rbO 2 2) + emp) from by unfold rbO; simp only [List.setIfInBounds_toArray, List.set_cons_zero, List.set_cons_succ])
      refine bodyPost_ret (v := .tuple #[.agg #[.int .i64 2, .int .i64 2], .slice a len cap]) ?_ rfl ?_
      · unfold rbO at H3
        exact results_cell_two (ty := 75) (p := 4) (t := 5) (by rfl) _ _ (w.heap.size + 1) 75 _ (0, 0) _ (by rfl) H3.at Try.underlying75 rfl (by kernel_rfl)
      · exact ⟨by rw [en], H3.below⟩
    · have en : fitN len = 65536 := by unfold fitN; rw [if_neg h2]
      have b2 : (65536 : Int) < len := by omega
      have b3 : (65536 : Int) ≤ cap := by omega
      obtain ⟨ad, rfl⟩ : ∃ ad, a = some ad := by
        cases a with
        | none => have := hnil rfl; omega
        | some ad => exact ⟨ad, rfl⟩
      go_wp2_with fail
      have H3 := ((H2.out.set 0 (.int .i64 2)).set 1 (.int .i64 2)).of_eq (show _ = pt (w.heap.size + 1) (rbO 2 2) + (pt w.heap.size (rbO 2 2) + emp) from by unfold rbO; simp only [List.setIfInBounds_toArray, List.set_cons_zero, List.set_cons_succ])
      refine bodyPost_ret (v := .tuple #[.agg #[.int .i64 2, .int .i64 2], .slice (some ad) 65536 cap]) ?_ rfl ?_
      · unfold rbO at H3
        exact results_cell_two (ty := 75) (p := 4) (t := 5) (by rfl) _ _ (w.heap.size + 1) 75 _ (0, 0) _ (by rfl) H3.at Try.underlying75 rfl (by kernel_rfl)
      · exact ⟨by rw [en], H3.below⟩

end Go.Proofs.Ythifeaigdobonaa

namespace Go.Proofs.Ythifeaigdobonaa
open Go.RowKit

def TruePost (W : World) (e : Ending) (w' : World) : Prop := e = .returned (.bool true) ∧ Below W.heap.size W w'

theorem rboxCells {W : World} {b : Nat} {x y : Int} {wr : World} {G : Hp} (h : Holds W wr (pt b (rbO x y) + G)) : wr.cell? ⟨b, 0, none⟩ = some (.int .i64 x) ∧ wr.cell? ⟨b, 1, none⟩ = some (.int .i64 y) ∧ wr.frozen? ⟨b, 0, none⟩ = false ∧ wr.frozen? ⟨b, 1, none⟩ = false := by
  unfold rbO at h
  exact ⟨by rw [h.cell]; rfl, by rw [h.cell]; rfl, h.free 0, h.free 1⟩
theorem rboxSet {W : World} {b : Nat} {x y : Int} {wr : World} {G : Hp} (h : Holds W wr (pt b (rbO x y) + G)) (u v : Int) : Holds W ((wr.setCell ⟨b, 0, none⟩ (.int .i64 u)).setCell ⟨b, 1, none⟩ (.int .i64 v)) (pt b (rbO u v) + G) := by
  unfold rbO at h ⊢
  have := (h.set 0 (.int .i64 u)).set 1 (.int .i64 v)
  simpa only [List.setIfInBounds_toArray, List.set_cons_zero, List.set_cons_succ] using this

set_option maxHeartbeats 2000000 in
set_option maxRecDepth 100000 in
theorem ralone_walk (W : World) (th cells : Int) (a : Option Addr) (len cap : Nat) (mvs : List DM.Mv) (t : Int) (hm : MovesIn W a len mvs) (hcap : len ≤ cap) (hnil : a = none → len = 0) :
    Calls Try.prog 10 #[rgV th cells, .slice a len cap, .int .i64 t] W (TruePost W) := by
  have hl := hm.2.1
  have h0 := (Holds.self W).new W.heap.size rfl (rbO th cells)
  obtain ⟨n, r, e1, e2, hok⟩ := fit_ok th cells
  have HM := Lib.hid hm.fit
  have HO := Lib.hid hok
  have H0 := Lib.hid h0
  have hfn : fitN len ≤ 65536 := by unfold fitN; split <;> omega
  have hargs : ∀ u ∈ mvs.take (fitN len), I64 u.arg := fun u hu => (hm.fit.2.2.1 u hu).2.2.1
  have HA := Lib.hid hargs
  obtain ⟨L, hL⟩ : ∃ L, L = fitN len := ⟨_, rfl⟩
  obtain ⟨ms, hms⟩ : ∃ ms, ms = mvs.take (fitN len) := ⟨_, rfl⟩
  rw [← hms] at HM HA
  rw [← hL] at HM hfn
  have HL := Lib.hid hL
  have HE1 := Lib.hid e1
  have HE2 := Lib.hid e2
  have HLL := Lib.hid (show L = ms.length from HM.out.1)
  clear hm h0 hargs hok hL hms e1 e2
  unfold rbO at H0
  unfold rgV
  go_enter Try.func10, Try.ntmps10
  go_wp2_with fail
  refine (rfit_at _ th cells a len cap hl hcap hnil).mono ?_
  rintro e w1 ⟨rfl, hb⟩
  rw [HE1.out, HE2.out, ← HL.out]
  have h1 : Holds W w1 (pt W.heap.size (rbO th cells) + emp) := H0.out.of_below hb
  obtain ⟨c0, c1, f0, f1⟩ := rboxCells h1
  have H2 := Lib.hid (rboxSet h1 n r)
  clear hb h1 H0
  unfold rgV
  go_upto_region 2 with fail
  generalize (w1.setCell ⟨W.heap.size, 0, none⟩ (.int .i64 (n : Int))).setCell ⟨W.heap.size, 1, none⟩ (.int .i64 (r : Int)) = w2 at H2 ⊢
  clear c0 c1 f0 f1
  go_wp2_with fail
  refine (rawake_yes w2).mono ?_
  rintro e w3 ⟨rfl, hb⟩
  have H3 := Lib.hid (H2.out.of_below hb)
  obtain ⟨c0, c1, _, _⟩ := rboxCells H3.out
  clear hb H2
  by_cases q0 : t < 0
  · have d0 : decide (t < 0) = true := decide_eq_true q0
    go_wp2_with fail
    go_ret
    exact ⟨rfl, H3.out.below⟩
  by_cases q1 : (n : Int) ≤ t
  · have d0 : decide (t < 0) = false := decide_eq_false q0
    have d1 : decide ((n : Int) ≤ t) = true := decide_eq_true q1
    go_wp2_with fail
    go_ret
    exact ⟨rfl, H3.out.below⟩
  by_cases q2 : 60000 < L
  · have d0 : decide (t < 0) = false := decide_eq_false q0
    have d1 : decide ((n : Int) ≤ t) = false := decide_eq_false q1
    have d2 : (60000 : Int) < (L : Int) := by omega
    go_wp2_with fail
    go_ret
    exact ⟨rfl, H3.out.below⟩
  obtain ⟨k, rfl⟩ := Int.eq_ofNat_of_zero_le (show 0 ≤ t by omega)
  have d0 : decide ((k : Int) < 0) = false := decide_eq_false q0
  have d1 : decide ((n : Int) ≤ (k : Int)) = false := decide_eq_false q1
  have d2 : (L : Int) ≤ 60000 := by omega
  have hinit : (RM.init n r).Deep := by have := HO.out; unfold okR at this; exact RM.Deep.start n r (by omega) (by omega) (by omega) (by omega)
  have HI := Lib.hid hinit
  have hkn : k < n := by omega
  clear hinit
  go_wp2_with fail
  refine (rg_made W w3 n r _ HO.out H3.out).mono ?_
  rintro e w4 ⟨p, rfl, hp⟩
  have HP := Lib.hid hp
  clear hp c0 c1
  obtain ⟨F, hF⟩ : ∃ F, F = pt W.heap.size (rbO n r) + emp := ⟨_, rfl⟩
  rw [← hF] at HP
  clear hF
  go_wp2_with fail
  go_loopw [46] (fun i wr => ∃ j : Nat, j ≤ L ∧ i = .int .i64 j ∧ RgPlays W p ((RM.init n r).runs (ms.take j)) F wr) (fun i _ => L - (intOf i).toNat)
  case atStart => exact ⟨0, Nat.zero_le _, rfl, HP.out⟩
  case round =>
    obtain ⟨j, hj, rfl, hp⟩ := hrel
    clear HP
    by_cases hlt : j < L
    · have hx := List.getElem?_eq_getElem (show j < ms.length by rw [← HLL.out]; exact hlt)
      generalize ms[j] = v at hx
      obtain ⟨b, off, rfl, hvok, e0, e1, e2, e3⟩ := HM.out.at hp.holds hx
      have HX := Lib.hid hx
      have HP := Lib.hid (hp.alloc (.cells (encMv v).toArray 27 (0, 0)))
      have HV := Lib.hid hvok.2.2.1
      clear hx hp hvok
      go_wp2_with fail
      refine (rg_mv W _ p v HV.out HP.out).mono ?_
      rintro e w' ⟨rfl, hp'⟩
      have HP' : Hid (RgPlays W p ((RM.init n r).runs (ms.take (j + 1))) F w') := by rw [RM.runs_take _ _ HX.out]; exact hp'
      clear hp'
      go_wp2_with fail
      go_roundw
      case rel => exact ⟨j + 1, by omega, by go_num, HP'.out⟩
      case measure => simp [intOf]; omega
    · have hke : j = L := by omega
      have hp2 : RgPlays W p ((RM.init n r).runs (ms ++ List.replicate 0 (stepMv k))) F wr := by
        rw [List.take_of_length_le (by have := HLL.out; omega)] at hp
        simpa using hp
      have HP := Lib.hid hp2
      clear hp hp2 hke
      go_wp2_with fail
      go_loopw [11] (fun i wr => ∃ j : Nat, j ≤ 8 ∧ i = .int .i64 j ∧ RgPlays W p ((RM.init n r).runs (ms ++ List.replicate j (stepMv k))) F wr) (fun i _ => 8 - (intOf i).toNat)
      case atStart => exact ⟨0, Nat.zero_le _, rfl, HP.out⟩
      case round =>
        obtain ⟨i, hi, rfl, hp⟩ := hrel
        clear HP
        have HP := Lib.hid hp
        clear hp
        by_cases hlt8 : i < 8
        · go_wp2_with fail
          refine (rg_mv W _ p (stepMv k) step_ok HP.out).mono ?_
          rintro e w' ⟨rfl, hp'⟩
          have HP' : Hid (RgPlays W p ((RM.init n r).runs (ms ++ List.replicate (i + 1) (stepMv k))) F w') := by rw [List.replicate_succ', ← List.append_assoc, RM.runs_snoc]; exact hp'
          clear hp'
          go_wp2_with fail
          go_roundw
          case rel => exact ⟨i + 1, by omega, by go_num, HP'.out⟩
          case measure => simp [intOf]; omega
        · have hje : i = 8 := by omega
          subst hje
          have hbz : ((RM.init n r).runs (ms ++ List.replicate 8 (stepMv k))).busy k = false := by
            rw [RM.runs_append]
            have hmv := RM.runs_moves (m := RM.init n r) ms (by show (0 : Int) + _ ≤ _; have := HLL.out; omega)
            exact RM.alone (HI.out.runs ms HA.out) (t := k) (a := 0) (d := 0) (I64.small (by decide) (by decide)) (by rw [RM.runs_len]; simp [RM.init]; exact hkn) (by rw [hmv]; show (0 : Int) + _ + 8 ≤ _; have := HLL.out; omega)
          have HBZ := Lib.hid hbz
          clear hbz
          go_wp2_with fail
          refine (rg_bz W _ p k HP.out).mono ?_
          rintro e w' ⟨rfl, rfl⟩
          rw [HBZ.out]
          go_wp2_with fail
          go_ret
          exact ⟨rfl, HP.out.holds.below⟩

end Go.Proofs.Ythifeaigdobonaa
