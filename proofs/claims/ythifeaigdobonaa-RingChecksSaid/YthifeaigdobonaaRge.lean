/- ring.Check, ring.Words, ring.New; Busy of a ring's machine. -/
import Derived.Test.YthifeaigdobonaaRgc
import Derived.Test.YthifeaigdobonaaBus
import Derived.Test.YthifeaigdobonaaAla
namespace Go.Proofs.Ythifeaigdobonaa
open Go.RowKit RM

def okR (th cells : Int) : Prop := (1 ≤ th ∧ th ≤ 16) ∧ 2 ≤ cells ∧ cells ≤ 64
instance (th cells : Int) : Decidable (okR th cells) := by unfold okR; infer_instance
def rgV (th cells : Int) : Value := .agg #[.int .i64 th, .int .i64 cells]
def errR (th cells : Int) : Int := if okR th cells then 0 else 220

section
variable (W w : World) (th cells : Int) (S : Hp)

theorem ring_check (h : Holds W w S) : Calls Try.prog 32 #[rgV th cells] w fun e w' => e = .returned (.int .i64 (errR th cells)) ∧ Holds W w' S := by
  unfold rgV
  by_cases h1 : th < 1
  · rw [show errR th cells = 220 from by unfold errR; rw [if_neg (by unfold okR; omega)]]
    have d1 : decide (th < 1) = true := decide_eq_true h1
    go_enter Try.func32, Try.ntmps32
    go_wp2_with fail
    go_ret
    exact ⟨rfl, (h.alloc _).right⟩
  have d1 : decide (th < 1) = false := decide_eq_false h1
  by_cases h2 : 16 < th
  · rw [show errR th cells = 220 from by unfold errR; rw [if_neg (by unfold okR; omega)]]
    have d2 : decide (16 < th) = true := decide_eq_true h2
    go_enter Try.func32, Try.ntmps32
    go_wp2_with fail
    go_ret
    exact ⟨rfl, (h.alloc _).right⟩
  have d2 : decide (16 < th) = false := decide_eq_false h2
  by_cases h3 : cells < 2
  · rw [show errR th cells = 220 from by unfold errR; rw [if_neg (by unfold okR; omega)]]
    have d3 : decide (cells < 2) = true := decide_eq_true h3
    go_enter Try.func32, Try.ntmps32
    go_wp2_with fail
    go_ret
    exact ⟨rfl, (h.alloc _).right⟩
  have d3 : decide (cells < 2) = false := decide_eq_false h3
  by_cases h4 : 64 < cells
  · rw [show errR th cells = 220 from by unfold errR; rw [if_neg (by unfold okR; omega)]]
    have d4 : decide (64 < cells) = true := decide_eq_true h4
    go_enter Try.func32, Try.ntmps32
    go_wp2_with fail
    go_ret
    exact ⟨rfl, (h.alloc _).right⟩
  · rw [show errR th cells = 0 from by unfold errR; rw [if_pos (by unfold okR; omega)]]
    have d4 : decide (64 < cells) = false := decide_eq_false h4
    go_enter Try.func32, Try.ntmps32
    go_wp2_with fail
    go_ret
    exact ⟨rfl, (h.alloc _).right⟩

theorem ring_words_no (hno : ¬ okR th cells) (h : Holds W w S) : Calls Try.prog 33 #[rgV th cells] w fun e w' => e = .returned (.tuple #[.slice none 0 0, .int .i64 220]) ∧ Holds W w' S := by
  have h1 := h.new w.heap.size rfl (.cells #[.int .i64 th, .int .i64 cells] 75 (0, 0))
  have HN := Lib.hid hno
  unfold rgV
  clear h hno
  go_enter Try.func33, Try.ntmps33
  go_wp2_with fail
  refine (ring_check W _ th cells _ h1).mono ?_
  rintro e w1 ⟨rfl, h2⟩
  rw [show errR th cells = 220 from by unfold errR; rw [if_neg HN.out]]
  go_wp2_with fail
  go_ret2
  exact ⟨rfl, h2.right⟩
end

/-- The words while the loop runs. -/
def wsK (cells k : Nat) : List Int := 0 :: 0 :: (turns k ++ List.replicate (2 * (cells - k)) 0)
theorem wsK_len {cells k : Nat} (h : k ≤ cells) : (wsK cells k).length = 2 + 2 * cells := by
  unfold wsK; simp [turns_len]; omega
theorem wsK_zero (cells : Nat) : wsK cells 0 = List.replicate (2 + 2 * cells) 0 := by
  unfold wsK
  rw [show turns 0 = [] from rfl, Nat.sub_zero, List.nil_append, show 2 + 2 * cells = 2 * cells + 1 + 1 from by omega, List.replicate_succ, List.replicate_succ]
theorem wsK_full (cells : Nat) : wsK cells cells = 0 :: 0 :: turns cells := by unfold wsK; simp
theorem wsK_set {cells k : Nat} (h : k < cells) : (wsK cells k).set (2 + 2 * k) k = wsK cells (k + 1) := by
  unfold wsK
  rw [show 2 + 2 * k = 2 * k + 1 + 1 from by omega, List.set_cons_succ, List.set_cons_succ, List.set_append_right _ _ (by rw [turns_len]; exact Nat.le_refl _), turns_len, Nat.sub_self, turns_succ,
    show 2 * (cells - k) = 2 * (cells - (k + 1)) + 1 + 1 from by omega, List.replicate_succ, List.replicate_succ]
  simp
theorem u64s_set (l : List Int) (i : Nat) (v : Int) : (u64s l).toArray.setIfInBounds i (.int .u64 v) = (u64s (l.set i v)).toArray := by
  simp [u64s, List.map_set]

theorem make_u64s (n : Nat) (h : n ≤ 1000) (w : World) : (Instr.makeSlice 31 (.int .i64 (n : Int)) (.int .i64 (n : Int))).run Try.prog w =
    .ok (.slice (some ⟨w.heap.size, 0, none⟩) n n) (w.alloc (.cells (u64s (List.replicate n 0)).toArray 82 (0, 0))) := make_words n h w

set_option maxHeartbeats 1000000 in
set_option maxRecDepth 100000 in
theorem ring_words (W w : World) (n cells : Nat) (S : Hp) (hok : okR n cells) (h : Holds W w S) :
    Calls Try.prog 33 #[rgV n cells] w fun e w' => ∃ v S', e = .returned (.tuple #[v, .int .i64 0]) ∧ RowAt 82 1 v (2 + 2 * cells) (u64s (0 :: 0 :: turns cells)) S' ∧ Holds W w' (S' + S) := by
  have h1 := h.new w.heap.size rfl (.cells #[.int .i64 (n : Int), .int .i64 (cells : Int)] 75 (0, 0))
  have HN := Lib.hid hok
  have hc : 2 ≤ cells ∧ cells ≤ 64 := by unfold okR at hok; omega
  unfold rgV
  clear h hok
  go_enter Try.func33, Try.ntmps33
  go_wp2_with fail
  refine (ring_check W _ n cells _ h1).mono ?_
  rintro e w1 ⟨rfl, h2⟩
  rw [show errR n cells = 0 from by unfold errR; rw [if_pos HN.out]]
  have c1 : w1.cell? ⟨w.heap.size, 1, none⟩ = some (.int .i64 (cells : Int)) := by rw [h2.cell]; rfl
  have hmk : ∀ w, (Instr.makeSlice 31 (.int .i64 (2 + 2 * (cells : Int))) (.int .i64 (2 + 2 * (cells : Int)))).run Try.prog w = .ok (.slice (some ⟨w.heap.size, 0, none⟩) (2 + 2 * cells) (2 + 2 * cells)) (w.alloc (.cells (u64s (List.replicate (2 + 2 * cells) 0)).toArray 82 (0, 0))) := fun w => by
    have := make_u64s (2 + 2 * cells) (by omega) w
    rw [show ((2 + 2 * cells : Nat) : Int) = 2 + 2 * (cells : Int) from by omega] at this
    exact this
  have H3 := Lib.hid (h2.new w1.heap.size rfl (.cells (u64s (List.replicate (2 + 2 * cells) 0)).toArray 82 (0, 0)))
  clear h1 h2
  go_upto_region 5 with fail
  obtain ⟨g, hg⟩ : ∃ g, g = w1.heap.size := ⟨_, rfl⟩
  rw [← hg]
  obtain ⟨w2, hw2⟩ : ∃ w2, w2 = w1.alloc (.cells (u64s (List.replicate (2 + 2 * cells) 0)).toArray 82) := ⟨_, rfl⟩
  rw [← hw2]
  have H4 : Hid (Holds W w2 (pt g (.cells (u64s (wsK cells 0)).toArray 82 (0, 0)) + (pt w.heap.size (.cells #[.int .i64 (n : Int), .int .i64 (cells : Int)] 75 (0, 0)) + S))) := by
    rw [hw2, hg, wsK_zero]; exact H3.out
  clear H3 hw2 hg hmk c1
  have c1 : w2.cell? ⟨w.heap.size, 1, none⟩ = some (.int .i64 (cells : Int)) := by rw [H4.out.right.cell]; rfl
  go_wp2_with fail
  go_loopw [6, 19] (fun _ i wr => ∃ k : Nat, k ≤ cells ∧ i = .int .i64 k ∧ Holds W wr (pt g (.cells (u64s (wsK cells k)).toArray 82 (0, 0)) + (pt w.heap.size (.cells #[.int .i64 (n : Int), .int .i64 (cells : Int)] 75 (0, 0)) + S))) (fun _ i _ => cells - (intOf i).toNat)
  case atStart => exact ⟨0, Nat.zero_le _, rfl, H4.out⟩
  case round =>
    obtain ⟨k, hk, rfl, h5⟩ := hrel
    clear H4 c1
    by_cases hlt : k < cells
    · have e0 : wr.cell? ⟨g, 2 + 2 * k, none⟩ = some (.int .u64 (wd (wsK cells k) (2 + 2 * k))) := by
        rw [h5.cell]
        have hl := wsK_len (cells := cells) (k := k) hk
        have : (wsK cells k)[2 + 2 * k]? = some (wsK cells k)[2 + 2 * k] := List.getElem?_eq_getElem (by omega)
        simp [u64s, wd, this]
      have f0 := h5.free (2 + 2 * k)
      have H6 : Hid (Holds W (wr.setCell ⟨g, 2 + 2 * k, none⟩ (.int .u64 k)) (pt g (.cells (u64s (wsK cells (k + 1))).toArray 82 (0, 0)) + (pt w.heap.size (.cells #[.int .i64 (n : Int), .int .i64 (cells : Int)] 75 (0, 0)) + S))) := by
        have := h5.set (2 + 2 * k) (.int .u64 k)
        rw [u64s_set, wsK_set hlt] at this
        exact this
      clear h5
      have b0 : (2 + 2 * (k : Int)) < ((2 + 2 * cells : Nat) : Int) := by omega
      go_wp2_with fail
      exact ⟨⟨k + 1, by omega, by go_num, H6.out⟩, by simp [intOf]; omega⟩
    · have : k = cells := by omega
      subst this
      have H5 := Lib.hid h5
      clear h5
      go_wp2_with fail
      go_ret2
      refine ⟨_, _, rfl, ?_, H5.out.of_eq (show _ = pt g (.cells (u64s (wsK k k)).toArray 82 (0, 0)) + S + pt w.heap.size _ by ac_rfl) |>.left⟩
      rw [wsK_full]
      have := RowAt.mk 82 1 g (2 + 2 * k) (2 + 2 * k) (u64s (0 :: 0 :: turns k)) [] (by simp [u64s, turns_len]; omega) (Nat.le_refl _) (by unfold maxLen; omega) (by simp [u64s, turns_len]; omega)
      rw [List.append_nil] at this
      exact this


theorem rkit_built (W w : World) (bv : Nat) (S : Hp) (h : Holds W w S) : ∃ wA wB,
    (Instr.mapUpdate 125 (.map (some w.heap.size)) (.int .i64 100) (.func (.func 73) #[] #[.pointer (some ⟨bv, 0, none⟩)])).run Try.prog (w.alloc (.map #[] 0)) = .ok () wA ∧
    (Instr.mapUpdate 125 (.map (some w.heap.size)) (.int .i64 101) (.func (.func 74) #[] #[.pointer (some ⟨bv, 0, none⟩)])).run Try.prog wA = .ok () wB ∧
    Holds W wB (pt w.heap.size (kitO (rents bv)) + S) := by
  have h4 := h.new w.heap.size rfl (.map (entsOf [] 0).toArray 0)
  have i1 := run_insert_ints (P := Try.prog) 125 25 139 Try.underlying125 Try.underlying25 w.heap.size [] h4.at 100 (.func (.func 73) #[] (capsV bv)) rfl
  have h5 := h4.setBlock (o' := .map (entsOf ([] ++ [((100 : Int), Value.func (.func 73) #[] (capsV bv))]) 0).toArray ([] ++ [((100 : Int), Value.func (.func 73) #[] (capsV bv))]).length)
  have i2 := run_insert_ints (P := Try.prog) 125 25 139 Try.underlying125 Try.underlying25 w.heap.size _ h5.at 101 (.func (.func 74) #[] (capsV bv)) rfl
  exact ⟨_, _, i1, i2, h5.setBlock⟩

theorem un_init (cells : Nat) (h : cells ≤ 64) : (0 :: 0 :: turns cells).map un = 0 :: 0 :: turns cells := by
  conv => rhs; rw [← List.map_id (0 :: 0 :: turns cells)]
  refine List.map_congr_left fun v hv => ?_
  have : 0 ≤ v ∧ v ≤ 64 := by
    simp only [List.mem_cons] at hv
    rcases hv with rfl | rfl | hv
    · omega
    · omega
    · have := turns_small cells v hv; omega
  exact un_small (by omega) (by omega)

theorem RPRel.start {bM bm kb bv n cells : Nat} {Sm : Hp} (hok : okR n cells) (hM : MachAt bM bm (.map (some kb)) (0 :: 0 :: turns cells) [] 0 [] (List.replicate n seat0) Sm) :
    RPRel bM bm kb bv (RM.init n cells) (Sm + (pt kb (kitO (rents bv)) + pt bv (rbO n cells))) := by
  unfold okR at hok
  refine ⟨RM.Inv.start n cells (by omega) (by omega) (by omega) (by omega), List.replicate n seat0, List.replicate n none, Sm, by simp [RM.init], by simp [RM.init], ?_, ?_, ?_⟩
  · intro t x hx
    have hx : (List.replicate n RM.noTh)[t]? = some x := hx
    have hlt : t < n := by have := (List.getElem?_eq_some_iff.1 hx).1; simpa using this
    have : x = RM.noTh := List.eq_of_mem_replicate (List.mem_of_getElem? hx)
    subst this
    exact ⟨seat0, none, by simp [hlt], by simp [hlt], .inl ⟨by show (-1 : Int) < 0; omega, rfl, rfl⟩⟩
  · show MachAt bM bm (.map (some kb)) ((0 :: 0 :: turns cells).map un) [] 0 [] _ Sm
    rw [un_init cells (by omega)]
    exact hM
  · unfold rrest
    rw [sumT_none, Hp.add_emp]
    have : (RM.init n cells).all.length = n := by simp [RM.init]
    rw [this]; rfl

theorem ring_new_no (W w : World) (th cells : Int) (S : Hp) (hno : ¬ okR th cells) (h : Holds W w S) :
    Calls Try.prog 43 #[rgV th cells] w fun e w' => e = .returned (.tuple #[.pointer none, .int .i64 220]) ∧ Holds W w' S := by
  have h1 := h.new w.heap.size rfl (.cells #[.int .i64 th, .int .i64 cells] 75 (0, 0))
  have HN := Lib.hid hno
  unfold rgV
  clear h hno
  go_enter Try.func43, Try.ntmps43
  go_wp2_with fail
  refine (ring_words_no W _ th cells _ HN.out h1).mono ?_
  rintro e w1 ⟨rfl, h2⟩
  go_wp2_with fail
  go_ret2
  exact ⟨rfl, h2.right⟩

set_option maxHeartbeats 1000000 in
set_option maxRecDepth 100000 in
theorem ring_new (W w : World) (n cells : Nat) (S : Hp) (hok : okR n cells) (h : Holds W w S) :
    Calls Try.prog 43 #[rgV n cells] w fun e w' => ∃ bM bm kb bv S', e = .returned (.tuple #[.pointer (some ⟨bM, 0, none⟩), .int .i64 0]) ∧ RPRel bM bm kb bv (RM.init n cells) S' ∧ Holds W w' (S' + S) := by
  have h1 := h.new w.heap.size rfl (rbO n cells)
  unfold rbO at h1
  have HN := Lib.hid hok
  have hn : 1 ≤ n ∧ n ≤ 16 ∧ cells ≤ 64 := by unfold okR at hok; omega
  unfold rgV
  clear h hok
  go_enter Try.func43, Try.ntmps43
  go_wp2_with fail
  refine (ring_words W _ n cells _ HN.out h1).mono ?_
  rintro e w1 ⟨v, S1, rfl, hr, h2⟩
  obtain ⟨va, vc, rfl⟩ := hr.form
  have h3 := h2.of_eq (show _ = pt w.heap.size (.cells #[.int .i64 (n : Int), .int .i64 (cells : Int)] 75 (0, 0)) + (S1 + S) by ac_rfl)
  have c0 : w1.cell? ⟨w.heap.size, 0, none⟩ = some (.int .i64 (n : Int)) := by rw [h3.cell]; rfl
  obtain ⟨wA, wB, i1, i2, h7⟩ := rkit_built W w1 w.heap.size _ h2
  have i0 : (Instr.makeMap 125 none).run Try.prog w1 = .ok (.map (some w1.heap.size)) (w1.alloc (.map #[] 0)) := rfl
  have HR := Lib.hid hr
  have H7 := Lib.hid h7
  clear hr h1 h2 h3 h7
  go_wp2_with fail
  have hlen : (0 :: 0 :: turns cells).length = 2 + 2 * cells := by simp [turns_len]; omega
  refine (machine_new (W := W) (w := wB) (S := S1) (pt w1.heap.size (kitO (rents w.heap.size)) + (pt w.heap.size (.cells #[.int .i64 (n : Int), .int .i64 (cells : Int)] 75 (0, 0)) + S)) n hn.1 hn.2.1 (0 :: 0 :: turns cells) _ w1.heap.size (by omega) (by rw [hlen]; exact HR.out) (H7.out.of_eq (by ac_rfl))).mono ?_
  rintro e w3 ⟨bM, bm, S', rfl, hM, h9⟩
  go_wp2_with fail
  go_ret2
  refine ⟨bM, bm, w1.heap.size, w.heap.size, _, rfl, RPRel.start HN.out hM, h9.of_eq ?_⟩
  unfold rbO
  ac_rfl

theorem ring_busy (W w : World) (bM bm kb bv : Nat) {m : RM} (F : Hp) (th : Int) {S : Hp} (hrel : RPRel bM bm kb bv m S) (h : Holds W w (S + F)) :
    Calls Try.prog 21 #[.pointer (some ⟨bM, 0, none⟩), .int .i64 th] w fun e w' => w = w' ∧ e = .returned (.bool (m.busy th)) := by
  obtain ⟨hi, seats, tb, Sm, h1, h2, h3, h4, rfl⟩ := hrel
  have hn := hi.nth
  have h' := h.of_eq (Hp.add_assoc _ _ _)
  by_cases q : th < 0 ∨ (m.all.length : Int) ≤ th
  · have e : m.busy th = false := decide_eq_false (by omega)
    rw [e]
    exact busy_out W w bM bm _ _ _ _ _ seats Sm _ th (by omega) (by omega) (by omega) h4 h'
  · obtain ⟨t, ht⟩ := Int.eq_ofNat_of_zero_le (show 0 ≤ th by omega)
    subst ht
    have hlt : t < m.all.length := by omega
    have hx := List.getElem?_eq_getElem hlt
    have hth : m.th ((t : Int)).toNat = m.all[t] := by rw [Int.toNat_natCast]; exact RM.th_of hx
    obtain ⟨s, b, e1, e2, hs⟩ := h3 t _ hx
    rcases hs with ⟨hc, htask, _⟩ | ⟨hc, _, _, c, bt, _, _, htask, _⟩
    · have e : m.busy t = false := decide_eq_false (by rw [hth]; omega)
      rw [e]
      exact busy_no W w bM bm _ _ _ _ _ seats Sm _ t s e1 htask (by omega) (by omega) h4 h'
    · have e : m.busy t = true := decide_eq_true (by rw [hth]; omega)
      rw [e]
      exact busy_yes W w bM bm _ _ _ _ _ seats Sm _ t s _ bt e1 htask (by omega) (by omega) h4 h'

/-- The ring's machine, wherever it lies. -/
structure RgSpot where
  bM : Nat
  bm : Nat
  kb : Nat
  bv : Nat

def RgPlays (W : World) (p : RgSpot) (m : RM) (F : Hp) (wr : World) : Prop := ∃ S, RPRel p.bM p.bm p.kb p.bv m S ∧ Holds W wr (S + F)
theorem RgPlays.inv {W : World} {p : RgSpot} {m : RM} {F : Hp} {wr : World} (h : RgPlays W p m F wr) : m.Inv := by obtain ⟨_, h, _⟩ := h; exact h.1
theorem RgPlays.holds {W : World} {p : RgSpot} {m : RM} {F : Hp} {w : World} (h : RgPlays W p m F w) : Holds W w F := by
  obtain ⟨S, _, h2⟩ := h
  exact h2.right
theorem RgPlays.alloc {W : World} {p : RgSpot} {m : RM} {F : Hp} {w : World} (h : RgPlays W p m F w) (o : Obj) : RgPlays W p m F (w.alloc o) := by
  obtain ⟨S, h1, h2⟩ := h
  exact ⟨S, h1, (h2.alloc o).right⟩
theorem RgPlays.of_below {W : World} {p : RgSpot} {m : RM} {F : Hp} {w w' : World} (h : RgPlays W p m F w) (hb : Below w.heap.size w w') : RgPlays W p m F w' := by
  obtain ⟨S, h1, h2⟩ := h
  exact ⟨S, h1, h2.of_below hb⟩

theorem rg_mv (W w : World) (p : RgSpot) {m : RM} {F : Hp} (v : DM.Mv) (harg : I64 v.arg) (h : RgPlays W p m F w) :
    Calls Try.prog 19 (moveArgs p.bM v.thread v.op v.arg v.data) w fun e w' => e = .returned (.bool (m.move v).2) ∧ RgPlays W p (m.move v).1 F w' := by
  obtain ⟨S, hrel, h⟩ := h
  exact (ring_move W w p.bM p.bm p.kb p.bv F v harg hrel h).mono fun e w' ⟨he, S', h1, h2⟩ => ⟨he, S', h1, h2⟩

theorem rg_made (W w : World) (n cells : Nat) (S : Hp) (hok : okR n cells) (h : Holds W w S) :
    Calls Try.prog 43 #[rgV n cells] w fun e w' => ∃ p : RgSpot, e = .returned (.tuple #[.pointer (some ⟨p.bM, 0, none⟩), .int .i64 0]) ∧ RgPlays W p (RM.init n cells) S w' :=
  (ring_new W w n cells S hok h).mono fun _ _ ⟨bM, bm, kb, bv, S', he, h1, h2⟩ => ⟨⟨bM, bm, kb, bv⟩, he, S', h1, h2⟩

theorem rg_bz (W w : World) (p : RgSpot) {m : RM} {F : Hp} (th : Int) (h : RgPlays W p m F w) :
    Calls Try.prog 21 #[.pointer (some ⟨p.bM, 0, none⟩), .int .i64 th] w fun e w' => w = w' ∧ e = .returned (.bool (m.busy th)) := by
  obtain ⟨S, h1, h2⟩ := h
  exact ring_busy W w p.bM p.bm p.kb p.bv F th h1 h2

theorem rg_run (W w : World) (p : RgSpot) {m : RM} {F : Hp} (h : RgPlays W p m F w) :
    Calls Try.prog 22 #[.pointer (some ⟨p.bM, 0, none⟩)] w fun e w' => ∃ v S', e = .returned v ∧ RunAt v m.calls m.trace (m.words.map un) S' ∧ RgPlays W p m (S' + F) w' := by
  obtain ⟨S, hrel, h⟩ := h
  have hrel0 := hrel
  obtain ⟨hi, seats, tb, Sm, h1, h2, h3, h4, rfl⟩ := hrel
  have hn := hi.nth
  have hm := hi.mv
  have hc := hi.ncalls
  have ht := hi.ntrace
  have hl := hi.len
  have hr := hi.cells
  refine (run_at W w p.bM p.bm (.map (some p.kb)) (m.words.map un) m.trace m.moves m.calls seats Sm (pt p.kb (kitO (rents p.bv)) + rrest p.bv m.all.length m.cells tb + F) (by omega) (by omega) (by omega) (by rw [List.length_map]; omega) h4 (h.of_eq (by ac_rfl))).mono ?_
  rintro e w' ⟨v, S', rfl, hR, h'⟩
  exact ⟨v, S', rfl, hR, _, hrel0, h'.of_eq (by ac_rfl)⟩

end Go.Proofs.Ythifeaigdobonaa
